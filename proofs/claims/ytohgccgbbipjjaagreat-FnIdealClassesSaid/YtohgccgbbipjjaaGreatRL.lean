/- Contracts: norms, forms, conjugates and units of ideals, of the program and the reference. -/
import Derived.Test.YtohgccgbbipjjaaGreatXA
import Derived.Test.YtohgccgbbipjjaaGreatCA
namespace Go.Proofs.YtohgccgbbipjjaaGreat
open Go.RowKit

set_option maxRecDepth 100000 in
set_option maxHeartbeats 3200000 in
theorem form_any (d e a b c : Int) (w : World) (ha : 1 ≤ a ∧ a ≤ 10000) (hb : 0 ≤ b ∧ b ≤ 20000) (hd : -2000 ≤ d ∧ d ≤ 0) (hc : b * b - d = 4 * a * c) : Calls Tryz.prog 28 #[.agg #[.int .i64 e, .int .i64 a, .int .i64 b], .int .i64 d] w fun x w' => x = .returned (.agg #[.int .i64 a, .int .i64 b, .int .i64 c]) ∧ Below w.heap.size w w' := by
  have m1 := mul_bd (a := b) (x := b) (A := 20000) (X := 20000) (by omega) (by omega) (by omega) (by omega)
  have w1 : wrap64 (b * b) = b * b := IntWalk.wrap64_in _ (by omega)
  have w2 : wrap64 (b * b - d) = b * b - d := IntWalk.wrap64_in _ (by omega)
  have w3 : wrap64 (4 * a) = 4 * a := IntWalk.wrap64_in _ (by omega)
  have i1 : IntKind.i64.wrap (b * b) = b * b := IntWalk.i64_in _ (by omega)
  have i2 : IntKind.i64.wrap (b * b - d) = b * b - d := IntWalk.i64_in _ (by omega)
  have i3 : IntKind.i64.wrap (4 * a) = 4 * a := IntWalk.i64_in _ (by omega)
  have q0 : (b * b - d).tdiv (4 * a) = c := by rw [hc]; exact Int.mul_tdiv_cancel_left _ (by omega)
  have c0 : 0 ≤ c := by
    apply Classical.byContradiction; intro hn
    have : 4 * a * c ≤ 4 * a * (-1) := Int.mul_le_mul_of_nonneg_left (by omega) (by omega)
    have : 0 ≤ b * b := Int.mul_nonneg hb.1 hb.1
    omega
  have c1 : c ≤ 4 * a * c := by have := Int.mul_le_mul_of_nonneg_right (show 1 ≤ 4 * a by omega) c0; omega
  have q1 : wrap64 c = c := IntWalk.wrap64_in _ (by omega)
  have q2 : IntKind.i64.wrap c = c := IntWalk.i64_in _ (by omega)
  have z0 : (4 * a == 0) = false := beq_eq_false_iff_ne.2 (by omega)
  have z1 : (4 * a = 0) = False := by simp; omega
  clear hc m1 c1
  go_enter Tryz.func28, Tryz.ntmps28
  go_wp2
  go_region
  go_wp2
  exact bodyPost_ret (v := .agg #[.int .i64 a, .int .i64 b, .int .i64 c]) (by simp [results, Tryz.results28, go_sem, *]) rfl ⟨rfl, (by repeat (first | with_reducible exact Below.refl _ _ | with_reducible assumption | with_reducible apply Below.drew | with_reducible apply below_drewN | (with_reducible apply below_setp; (first | omega | (simp <;> omega))) | (with_reducible apply below_allocp; (first | omega | (simp <;> omega))) | (with_reducible refine below_viap (by assumption) ?_ ?_; (first | omega | (simp <;> omega)))))⟩
set_option maxRecDepth 100000 in
set_option maxHeartbeats 3200000 in
theorem idForm_any (d e a b c : Int) (w : World) (ha : 1 ≤ a ∧ a ≤ 10000) (hb : 0 ≤ b ∧ b ≤ 20000) (hd : -2000 ≤ d ∧ d ≤ 0) (hc : b * b - d = 4 * a * c) : Calls Tryz.prog 52 #[.int .i64 d, .agg #[.int .i64 e, .int .i64 a, .int .i64 b]] w fun x w' => x = .returned (.agg #[.int .i64 a, .int .i64 b, .int .i64 c]) ∧ Below w.heap.size w w' := by
  have m1 := mul_bd (a := b) (x := b) (A := 20000) (X := 20000) (by omega) (by omega) (by omega) (by omega)
  have w1 : wrap64 (b * b) = b * b := IntWalk.wrap64_in _ (by omega)
  have w2 : wrap64 (b * b - d) = b * b - d := IntWalk.wrap64_in _ (by omega)
  have w3 : wrap64 (4 * a) = 4 * a := IntWalk.wrap64_in _ (by omega)
  have i1 : IntKind.i64.wrap (b * b) = b * b := IntWalk.i64_in _ (by omega)
  have i2 : IntKind.i64.wrap (b * b - d) = b * b - d := IntWalk.i64_in _ (by omega)
  have i3 : IntKind.i64.wrap (4 * a) = 4 * a := IntWalk.i64_in _ (by omega)
  have q0 : (b * b - d).tdiv (4 * a) = c := by rw [hc]; exact Int.mul_tdiv_cancel_left _ (by omega)
  have c0 : 0 ≤ c := by
    apply Classical.byContradiction; intro hn
    have : 4 * a * c ≤ 4 * a * (-1) := Int.mul_le_mul_of_nonneg_left (by omega) (by omega)
    have : 0 ≤ b * b := Int.mul_nonneg hb.1 hb.1
    omega
  have c1 : c ≤ 4 * a * c := by have := Int.mul_le_mul_of_nonneg_right (show 1 ≤ 4 * a by omega) c0; omega
  have q1 : wrap64 c = c := IntWalk.wrap64_in _ (by omega)
  have q2 : IntKind.i64.wrap c = c := IntWalk.i64_in _ (by omega)
  have z0 : (4 * a == 0) = false := beq_eq_false_iff_ne.2 (by omega)
  have z1 : (4 * a = 0) = False := by simp; omega
  clear hc m1 c1
  go_enter Tryz.func52, Tryz.ntmps52
  go_wp2
  go_region
  go_wp2
  exact bodyPost_ret (v := .agg #[.int .i64 a, .int .i64 b, .int .i64 c]) (by simp [results, Tryz.results52, go_sem, *]) rfl ⟨rfl, (by repeat (first | with_reducible exact Below.refl _ _ | with_reducible assumption | with_reducible apply Below.drew | with_reducible apply below_drewN | (with_reducible apply below_setp; (first | omega | (simp <;> omega))) | (with_reducible apply below_allocp; (first | omega | (simp <;> omega))) | (with_reducible refine below_viap (by assumption) ?_ ?_; (first | omega | (simp <;> omega)))))⟩
end Go.Proofs.YtohgccgbbipjjaaGreat
