/- Contracts: the comparison of points, and the closure that impl.sortPoints hands over. -/
import Derived.Test.YtblcmkhkbgikoaaGreatHP
import Derived.Test.YtblcmkhkbgikoaaGreatEP
namespace Go.Proofs.YtblcmkhkbgikoaaGreat
open Go.RowKit

theorem ltP_casesQ (a1 a2 b1 b2 : Int) : (a1 < b1 ∧ ltP (a1, a2) (b1, b2) = true) ∨ (¬ a1 < b1 ∧ a1 ≠ b1 ∧ ltP (a1, a2) (b1, b2) = false) ∨ (a1 = b1 ∧ ltP (a1, a2) (b1, b2) = decide (a2 < b2)) := by
  unfold ltP
  by_cases h : a1 < b1
  · left; simp [h]
  · by_cases h2 : a1 = b1
    · right; right; simp [h2]
    · right; left; simp [h, h2]
set_option maxHeartbeats 1600000 in
theorem lessPq_any (a1 a2 b1 b2 : Int) (w : World) :
    Calls Tryz.prog 58 #[.agg #[.int .i64 a1, .int .i64 a2], .agg #[.int .i64 b1, .int .i64 b2]] w fun e w' => e = .returned (.bool (ltP (a1, a2) (b1, b2))) ∧ Below w.heap.size w w' := by
  have hc := ltP_casesQ a1 a2 b1 b2
  generalize ltP (a1, a2) (b1, b2) = R at hc
  rcases hc with ⟨h1, rfl⟩ | ⟨h1, h2, rfl⟩ | ⟨rfl, rfl⟩
  · go_enter Tryz.func58, Tryz.ntmps58
    go_wp2
    go_ret
    exact ⟨rfl, (by repeat (first | with_reducible exact Below.refl _ _ | with_reducible assumption | with_reducible apply Below.drew | with_reducible apply below_drewN | (with_reducible apply below_setp; (first | omega | (simp <;> omega))) | (with_reducible apply below_allocp; (first | omega | (simp <;> omega))) | (with_reducible refine below_viap (by assumption) ?_ ?_; (first | omega | (simp <;> omega)))))⟩
  · have e1 : (a1 == b1) = false := beq_eq_false_iff_ne.2 h2
    clear h2
    go_enter Tryz.func58, Tryz.ntmps58
    go_wp2
    go_ret
    exact ⟨rfl, (by repeat (first | with_reducible exact Below.refl _ _ | with_reducible assumption | with_reducible apply Below.drew | with_reducible apply below_drewN | (with_reducible apply below_setp; (first | omega | (simp <;> omega))) | (with_reducible apply below_allocp; (first | omega | (simp <;> omega))) | (with_reducible refine below_viap (by assumption) ?_ ?_; (first | omega | (simp <;> omega)))))⟩
  · have h1 : ¬ a1 < a1 := by omega
    go_enter Tryz.func58, Tryz.ntmps58
    go_wp2
    go_ret
    exact ⟨rfl, (by repeat (first | with_reducible exact Below.refl _ _ | with_reducible assumption | with_reducible apply Below.drew | with_reducible apply below_drewN | (with_reducible apply below_setp; (first | omega | (simp <;> omega))) | (with_reducible apply below_allocp; (first | omega | (simp <;> omega))) | (with_reducible refine below_viap (by assumption) ?_ ?_; (first | omega | (simp <;> omega)))))⟩
set_option maxRecDepth 100000 in
set_option maxHeartbeats 3200000 in
theorem lessClo_any (g n c Bs i j : Nat) (a b x y : Int) (w : World) (hB : w.cell? ⟨Bs, 0, none⟩ = some (.slice (some ⟨g, 0, none⟩) n c)) (lB : Bs < w.heap.size) (lg : g < w.heap.size) (hi : i < n) (hj : j < n)
    (c1 : w.cell? ⟨g, i * 2, none⟩ = some (.int .i64 a)) (c2 : w.cell? ⟨g, i * 2 + 1, none⟩ = some (.int .i64 b)) (c3 : w.cell? ⟨g, j * 2, none⟩ = some (.int .i64 x)) (c4 : w.cell? ⟨g, j * 2 + 1, none⟩ = some (.int .i64 y)) :
    Calls Tryz.prog 57 #[.int .i64 i, .int .i64 j, .pointer (some ⟨Bs, 0, none⟩)] w fun e w' => e = .returned (.bool (ltP (a, b) (x, y))) ∧ Below w.heap.size w w' := by
  have hL := Lib.hid (fun w => lessPq_any a b x y w)
  have kI : (i : Int) < n := by omega
  have kJ : (j : Int) < n := by omega
  generalize ltP (a, b) (x, y) = q at *
  go_enter Tryz.func57, Tryz.ntmps57
  go_wp2
  refine wp_region_calm 9 (Below (w.heap.size) _) (by kernel_rfl) (by kernel_rfl) ((Below.refl _ _).drew) ?_
  simp only [List.take_succ_cons, List.take_zero, List.drop_succ_cons, List.drop_zero]
  repeat (first | (apply wpCalm_go; go_simp; (intro w' hw' hcc hff; go_simp; first | exact rfl | ((with_reducible refine (hL.out _).mono ?_); rintro ee w1 ⟨rfl, hb⟩; exact ⟨rfl, calm_call (by simp <;> omega) hw' hb⟩)); (intro K hK; go_simp; refine hK _ ?_; clear hK K)) | (apply wpCalm_skip; go_simp; (try (focus (simp [undef]; done))); (intro K hK; go_simp; refine hK _ ?_; clear hK K)))
  refine wpCalm_nil ?_
  intro w1 hw1
  have hcc := (calm_cells hw1).1
  have hff := (calm_cells hw1).2
  have hss := calm_size hw1
  have hsz := hw1.size
  (try simp at hsz)
  clear hcc hff hss
  go_wp2
  go_ret
  exact ⟨rfl, (by repeat (first | with_reducible exact Below.refl _ _ | with_reducible assumption | with_reducible apply Below.drew | with_reducible apply below_drewN | (with_reducible apply below_setp; (first | omega | (simp <;> omega))) | (with_reducible apply below_allocp; (first | omega | (simp <;> omega))) | (with_reducible refine below_viap (by assumption) ?_ ?_; (first | omega | (simp <;> omega)))))⟩
end Go.Proofs.YtblcmkhkbgikoaaGreat
