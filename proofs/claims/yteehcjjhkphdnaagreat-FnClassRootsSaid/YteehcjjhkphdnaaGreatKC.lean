/- Contracts of IsSquareClass for every form, of the program and of the reference. -/
import Derived.Test.YteehcjjhkphdnaaGreatKA
import Derived.Test.YteehcjjhkphdnaaGreatKB
namespace Go.Proofs.YteehcjjhkphdnaaGreat
open Go.RowKit

/-- What IsSquareClass gives. -/
def SqB (a b c : Int) (y ok : Bool) : Prop :=
  (isCls a b c = false ∧ y = false ∧ ok = false) ∨
  (isCls a b c = true ∧ hasF ((clsL (disc ⟨a, b, c⟩)).filter (powP (disc ⟨a, b, c⟩) 2 (clsL (disc ⟨a, b, c⟩)))) (red ⟨a, b, c⟩) = y ∧ ok = true)
theorem sqB_ex (a b c : Int) : ∃ y ok, SqB a b c y ok := by
  cases hc : isCls a b c with
  | false => exact ⟨_, _, .inl ⟨hc, rfl, rfl⟩⟩
  | true => exact ⟨_, _, .inr ⟨hc, rfl, rfl⟩⟩

set_option maxRecDepth 100000 in
set_option maxHeartbeats 800000 in
theorem implIsSqB_any (a b c : Int) (y ok : Bool) (w : World) (h : SqB a b c y ok) :
    Calls Tryz.prog 51 #[.agg #[.int .i64 a, .int .i64 b, .int .i64 c]] w fun e w' => e = .returned (.tuple #[.bool y, .bool ok]) ∧ Below w.heap.size w w' := by
  rcases h with ⟨hc, rfl, rfl⟩ | ⟨hc, hy, rfl⟩
  · go_enter Tryz.func51, Tryz.ntmps51
    go_wp2_with (go_at_call 93; (with_reducible refine (icls_any a b c _).mono ?_); rw [hc]; rintro e v1 ⟨rfl, hB1⟩; have hZ1 := hB1.size; (try simp at hZ1); (try have zl1 : w.heap.size < v1.heap.size := by omega); (try have ze1 : w.heap.size ≤ v1.heap.size := by omega); (try have zn1 : ¬ w.heap.size = v1.heap.size := by omega); (try have zm1 : ¬ v1.heap.size = w.heap.size := by omega); have hC1_0 := fun o => (calm_cells hB1).1 (w.heap.size) o (by first | omega | (simp <;> omega)); have hF1_0 := fun o => (calm_cells hB1).2 (w.heap.size) o (by first | omega | (simp <;> omega)); (try have hl1_0 : w.heap.size < v1.heap.size := by omega); (try have hm1_0 : ¬ w.heap.size = v1.heap.size := by omega); (try have hn1_0 : ¬ v1.heap.size = w.heap.size := by omega))
    go_ret2
    exact ⟨rfl, (by repeat (first | with_reducible exact Below.refl _ _ | with_reducible assumption | with_reducible apply Below.drew | with_reducible apply below_drewN | (with_reducible apply below_setp; (first | omega | (simp <;> omega))) | (with_reducible apply below_allocp; (first | omega | (simp <;> omega))) | (with_reducible refine below_viap (by assumption) ?_ ?_; (first | omega | (simp <;> omega)))))⟩
  · have := implIsSq_any a b c _ _ _ w hc rfl rfl rfl
    rwa [hy] at this

end Go.Proofs.YteehcjjhkphdnaaGreat
