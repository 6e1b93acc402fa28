/- Contracts: products and bases of elements, of the reference. -/
import Derived.Test.YtohgccgbbipjjaaGreatXA
namespace Go.Proofs.YtohgccgbbipjjaaGreat
open Go.RowKit

set_option maxRecDepth 100000 in
set_option maxHeartbeats 3200000 in
theorem idMul_any (d xu xv yu yv U V : Int) (w : World) (hd : -2000 ≤ d ∧ d ≤ 2000) (h1 : -20000 ≤ xu ∧ xu ≤ 20000) (h2 : -20000 ≤ yu ∧ yu ≤ 20000) (h3 : 0 ≤ xv ∧ xv ≤ 1) (h4 : 0 ≤ yv ∧ yv ≤ 1) (hU : xu * yu + d * xv * yv = 2 * U) (hV : xu * yv + xv * yu = 2 * V) :
    Calls Tryz.prog 63 #[.int .i64 d, .agg #[.int .i64 xu, .int .i64 xv], .agg #[.int .i64 yu, .int .i64 yv]] w fun x w' => x = .returned (.agg #[.int .i64 U, .int .i64 V]) ∧ Below w.heap.size w w' := by
  have m1 := mul_bd (a := xu) (x := yu) (A := 20000) (X := 20000) (by omega) (by omega) (by omega) (by omega)
  have m2 := mul_bd (a := d) (x := xv) (A := 2000) (X := 1) (by omega) (by omega) (by omega) (by omega)
  have m3 := mul_bd (a := d * xv) (x := yv) (A := 2000) (X := 1) (by omega) (by omega) (by omega) (by omega)
  have m4 := mul_bd (a := xu) (x := yv) (A := 20000) (X := 1) (by omega) (by omega) (by omega) (by omega)
  have m5 := mul_bd (a := xv) (x := yu) (A := 1) (X := 20000) (by omega) (by omega) (by omega) (by omega)
  have w1 : wrap64 (xu * yu) = xu * yu := IntWalk.wrap64_in _ (by omega)
  have w2 : wrap64 (d * xv) = d * xv := IntWalk.wrap64_in _ (by omega)
  have w3 : wrap64 (d * xv * yv) = d * xv * yv := IntWalk.wrap64_in _ (by omega)
  have w4 : wrap64 (xu * yv) = xu * yv := IntWalk.wrap64_in _ (by omega)
  have w5 : wrap64 (xv * yu) = xv * yu := IntWalk.wrap64_in _ (by omega)
  have w6 : wrap64 (xu * yu + d * xv * yv) = xu * yu + d * xv * yv := IntWalk.wrap64_in _ (by omega)
  have w7 : wrap64 (xu * yv + xv * yu) = xu * yv + xv * yu := IntWalk.wrap64_in _ (by omega)
  have q1 : (xu * yu + d * xv * yv).tdiv 2 = U := by rw [hU]; exact Int.mul_tdiv_cancel_left _ (by decide)
  have q2 : (xu * yv + xv * yu).tdiv 2 = V := by rw [hV]; exact Int.mul_tdiv_cancel_left _ (by decide)
  have q3 : wrap64 U = U := IntWalk.wrap64_in _ (by omega)
  have q4 : wrap64 V = V := IntWalk.wrap64_in _ (by omega)
  clear m1 m2 m3 m4 m5 hU hV
  go_enter Tryz.func63, Tryz.ntmps63
  go_wp2
  exact bodyPost_ret (v := .agg #[.int .i64 U, .int .i64 V]) (by simp [results, Tryz.results63, go_sem, *]) rfl ⟨rfl, (by repeat (first | with_reducible exact Below.refl _ _ | with_reducible assumption | with_reducible apply Below.drew | with_reducible apply below_drewN | (with_reducible apply below_setp; (first | omega | (simp <;> omega))) | (with_reducible apply below_allocp; (first | omega | (simp <;> omega))) | (with_reducible refine below_viap (by assumption) ?_ ?_; (first | omega | (simp <;> omega)))))⟩
set_option maxRecDepth 100000 in
set_option maxHeartbeats 3200000 in
theorem idBasis_any (a b : Int) (w : World) (ha : 1 ≤ a ∧ a ≤ 10000) (hb : 0 ≤ b ∧ b ≤ 20000) :
    Calls Tryz.prog 62 #[.agg #[.int .i64 1, .int .i64 a, .int .i64 b]] w fun x w' => x = .returned (.slice (some ⟨w.heap.size + 1, 0, none⟩) 2 2) ∧ Blk w' (w.heap.size + 1) 76 #[.int .i64 (2 * a), .int .i64 0, .int .i64 (-b), .int .i64 1] ∧ Below w.heap.size w w' := by
  have w1 : wrap64 (2 * a) = 2 * a := IntWalk.wrap64_in _ (by omega)
  have w2 : wrap64 (-b) = -b := IntWalk.wrap64_in _ (by omega)
  have i2 : IntKind.i64.wrap (-b) = -b := IntWalk.i64_in _ (by omega)
  have n1 : -1 * b = -b := by omega
  go_enter Tryz.func62, Tryz.ntmps62
  go_wp2
  go_ret
  exact ⟨rfl, by (repeat (first | with_reducible assumption | (with_reducible apply Blk.new_at; (first | rfl | (simp; done))) | with_reducible apply Blk.store3 | with_reducible apply Blk.store4 | (with_reducible apply Blk.farp; (first | omega | (simp <;> omega))) | with_reducible apply Blk.allocp | with_reducible apply Blk.drew | with_reducible apply Blk.drewN)), (by repeat (first | with_reducible exact Below.refl _ _ | with_reducible assumption | with_reducible apply Below.drew | with_reducible apply below_drewN | (with_reducible apply below_setp; (first | omega | (simp <;> omega))) | (with_reducible apply below_allocp; (first | omega | (simp <;> omega))) | (with_reducible refine below_viap (by assumption) ?_ ?_; (first | omega | (simp <;> omega)))))⟩
end Go.Proofs.YtohgccgbbipjjaaGreat
