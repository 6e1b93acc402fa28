/- Contracts: two class forms of one discriminant, of the reference (written by gen_FO.py). -/
import Derived.Test.YtlcegkafagdcjaaGreatDoorRY
namespace Go.Proofs.YtlcegkafagdcjaaGreatDoor
open Go.RowKit

theorem sdX (f : Fm) (w : World) (h : isCls f.a f.b f.c = true) : Calls Tryz.prog 78 #[.agg #[.int .i64 f.a, .int .i64 f.b, .int .i64 f.c]] w fun e w' => e = .returned (.int .i64 (disc f)) ∧ Below w.heap.size w w' := by
  have pf : isFm f.a f.b f.c = true := by unfold isCls isShown isDefB at h; simp only [Bool.and_eq_true] at h; exact h.1.1.1
  obtain ⟨a1, a2, a3⟩ := fm_prods pf
  exact sdisc_any f.a f.b f.c w a1 a2 a3
set_option maxRecDepth 100000 in
set_option maxHeartbeats 1600000 in
theorem coTwo_any (f g : Fm) (w : World) :
    Calls Tryz.prog 40 #[.agg #[.int .i64 f.a, .int .i64 f.b, .int .i64 f.c], .agg #[.int .i64 g.a, .int .i64 g.b, .int .i64 g.c]] w fun e w' => e = .returned (.bool (pairB f g)) ∧ Below w.heap.size w w' := by
  unfold pairB
  have hIf := Lib.hid (fun w => scls_any f.a f.b f.c w)
  have hIg := Lib.hid (fun w => scls_any g.a g.b g.c w)
  cases hf : isCls f.a f.b f.c with
  | false =>
    rw [hf] at hIf
    go_enter Tryz.func40, Tryz.ntmps40
    go_wp2
    go_region_with (go_at_call 77; refine (hIf.out _).mono ?_; rintro e w1 ⟨rfl, hb⟩; have kA1 := fun o => (calm_cells hb).1 w.heap.size o (by first | omega | (simp <;> omega)); have kB1 := fun o => (calm_cells hb).1 (w.heap.size + 1) o (by first | omega | (simp <;> omega)); have kZ1 := hb.size; (try simp at kZ1))
    all_goals (go_wp2; go_ret; exact ⟨rfl, (by repeat (first | with_reducible (first | exact Below.refl _ _ | assumption | apply Below.drew | apply below_drewN) | (with_reducible (first | apply below_setp | apply below_allocp); (first | omega | (simp <;> omega))) | (with_reducible refine below_viap (by assumption) ?_ ?_; (first | omega | (simp <;> omega)))))⟩)
  | true =>
    rw [hf] at hIf
    cases hg : isCls g.a g.b g.c with
    | false =>
      rw [hg] at hIg
      go_enter Tryz.func40, Tryz.ntmps40
      go_wp2
      go_region_with (first | (go_at_call 77; (with_reducible refine (hIf.out _).mono ?_); rintro e w1 ⟨rfl, hb⟩; have kA1 := fun o => (calm_cells hb).1 w.heap.size o (by first | omega | (simp <;> omega)); have kB1 := fun o => (calm_cells hb).1 (w.heap.size + 1) o (by first | omega | (simp <;> omega)); have kZ1 := hb.size; (try simp at kZ1)) | (go_at_call 77; (with_reducible refine (hIg.out _).mono ?_); rintro e w2 ⟨rfl, hb2⟩; have kA2 := fun o => (calm_cells hb2).1 w.heap.size o (by first | omega | (simp <;> omega)); have kB2 := fun o => (calm_cells hb2).1 (w.heap.size + 1) o (by first | omega | (simp <;> omega)); have kZ2 := hb2.size; (try simp at kZ2)))
      all_goals (go_wp2; go_ret; exact ⟨rfl, (by repeat (first | with_reducible (first | exact Below.refl _ _ | assumption | apply Below.drew | apply below_drewN) | (with_reducible (first | apply below_setp | apply below_allocp); (first | omega | (simp <;> omega))) | (with_reducible refine below_viap (by assumption) ?_ ?_; (first | omega | (simp <;> omega)))))⟩)
    | true =>
      rw [hg] at hIg
      have cf : CF (disc f) f (red f) := CF.of_cls hf
      have cg : CF (disc g) g (red g) := CF.of_cls hg
      have hDf := Lib.hid (fun w => sdX f w hf)
      have hDg := Lib.hid (fun w => sdX g w hg)
      clear cf cg hf hg
      generalize disc f = x at *
      generalize disc g = y at *
      go_enter Tryz.func40, Tryz.ntmps40
      go_wp2
      go_region_with (first | (go_at_call 77; (with_reducible refine (hIf.out _).mono ?_); rintro e w1 ⟨rfl, hb⟩; have kA1 := fun o => (calm_cells hb).1 w.heap.size o (by first | omega | (simp <;> omega)); have kB1 := fun o => (calm_cells hb).1 (w.heap.size + 1) o (by first | omega | (simp <;> omega)); have kZ1 := hb.size; (try simp at kZ1)) | (go_at_call 77; (with_reducible refine (hIg.out _).mono ?_); rintro e w2 ⟨rfl, hb2⟩; have kA2 := fun o => (calm_cells hb2).1 w.heap.size o (by first | omega | (simp <;> omega)); have kB2 := fun o => (calm_cells hb2).1 (w.heap.size + 1) o (by first | omega | (simp <;> omega)); have kZ2 := hb2.size; (try simp at kZ2)) | (go_at_call 78; (with_reducible refine (hDf.out _).mono ?_); rintro e w3 ⟨rfl, hb3⟩; have kA3 := fun o => (calm_cells hb3).1 w.heap.size o (by first | omega | (simp <;> omega)); have kB3 := fun o => (calm_cells hb3).1 (w.heap.size + 1) o (by first | omega | (simp <;> omega)); have kZ3 := hb3.size; (try simp at kZ3)) | (go_at_call 78; (with_reducible refine (hDg.out _).mono ?_); rintro e w4 ⟨rfl, hb4⟩; have kZ4 := hb4.size; (try simp at kZ4)))
      all_goals (go_wp2; go_ret; exact ⟨ret_bool (by rw [Bool.true_and, Bool.true_and, Bool.eq_iff_iff, beq_iff_eq, decide_eq_true_iff]), (by repeat (first | with_reducible (first | exact Below.refl _ _ | assumption | apply Below.drew | apply below_drewN) | (with_reducible (first | apply below_setp | apply below_allocp); (first | omega | (simp <;> omega))) | (with_reducible refine below_viap (by assumption) ?_ ?_; (first | omega | (simp <;> omega)))))⟩)
end Go.Proofs.YtlcegkafagdcjaaGreatDoor
