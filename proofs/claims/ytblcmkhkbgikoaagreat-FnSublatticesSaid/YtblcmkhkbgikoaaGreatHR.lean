/- Contracts: lattices and forms on lattices, of both sides (written by gen_HR.py). -/
import Derived.Test.YtblcmkhkbgikoaaGreatCA
import Derived.Test.YtblcmkhkbgikoaaGreatNA
namespace Go.Proofs.YtblcmkhkbgikoaaGreat
open Go.RowKit

/-- Whether three numbers are a lattice. -/
def laB (A B D : Int) : Bool := decide (1 ≤ A) && (decide (A ≤ 1000) && (decide (1 ≤ D) && (decide (D ≤ 1000) && (decide (0 ≤ B) && decide (B < A)))))
structure LaV (A B D : Int) : Prop where
  a1 : 1 ≤ A
  a2 : A ≤ 1000
  d1 : 1 ≤ D
  d2 : D ≤ 1000
  b0 : 0 ≤ B
  b2 : B < A
theorem laB_iff {A B D : Int} : laB A B D = true ↔ LaV A B D := by
  unfold laB
  simp only [Bool.and_eq_true, decide_eq_true_eq]
  exact ⟨fun ⟨h1, h2, h3, h4, h5, h6⟩ => ⟨h1, h2, h3, h4, h5, h6⟩, fun h => ⟨h.a1, h.a2, h.d1, h.d2, h.b0, h.b2⟩⟩
set_option maxRecDepth 100000 in
set_option maxHeartbeats 6400000 in
theorem isLattice_any (A B D : Int) (w : World) : Calls Tryz.prog 26 #[.agg #[.int .i64 A, .int .i64 B, .int .i64 D]] w fun x w' => x = .returned (.bool (laB A B D)) ∧ Below w.heap.size w w' := by
  unfold laB
  by_cases h0 : 1 ≤ A
  rotate_left
  · have d0 : decide (1 ≤ A) = false := decide_eq_false h0
    rw [d0, Bool.false_and]
    go_enter Tryz.func26, Tryz.ntmps26
    go_wp2
    go_ret
    exact ⟨rfl, (by repeat (first | with_reducible exact Below.refl _ _ | with_reducible assumption | with_reducible apply Below.drew | with_reducible apply below_drewN | (with_reducible apply below_setp; (first | omega | (simp <;> omega))) | (with_reducible apply below_allocp; (first | omega | (simp <;> omega))) | (with_reducible refine below_viap (by assumption) ?_ ?_; (first | omega | (simp <;> omega)))))⟩
  have d0 : decide (1 ≤ A) = true := decide_eq_true h0
  rw [d0, Bool.true_and]
  by_cases h1 : A ≤ 1000
  rotate_left
  · have d1 : decide (A ≤ 1000) = false := decide_eq_false h1
    rw [d1, Bool.false_and]
    go_enter Tryz.func26, Tryz.ntmps26
    go_wp2
    go_ret
    exact ⟨rfl, (by repeat (first | with_reducible exact Below.refl _ _ | with_reducible assumption | with_reducible apply Below.drew | with_reducible apply below_drewN | (with_reducible apply below_setp; (first | omega | (simp <;> omega))) | (with_reducible apply below_allocp; (first | omega | (simp <;> omega))) | (with_reducible refine below_viap (by assumption) ?_ ?_; (first | omega | (simp <;> omega)))))⟩
  have d1 : decide (A ≤ 1000) = true := decide_eq_true h1
  rw [d1, Bool.true_and]
  by_cases h2 : 1 ≤ D
  rotate_left
  · have d2 : decide (1 ≤ D) = false := decide_eq_false h2
    rw [d2, Bool.false_and]
    go_enter Tryz.func26, Tryz.ntmps26
    go_wp2
    go_ret
    exact ⟨rfl, (by repeat (first | with_reducible exact Below.refl _ _ | with_reducible assumption | with_reducible apply Below.drew | with_reducible apply below_drewN | (with_reducible apply below_setp; (first | omega | (simp <;> omega))) | (with_reducible apply below_allocp; (first | omega | (simp <;> omega))) | (with_reducible refine below_viap (by assumption) ?_ ?_; (first | omega | (simp <;> omega)))))⟩
  have d2 : decide (1 ≤ D) = true := decide_eq_true h2
  rw [d2, Bool.true_and]
  by_cases h3 : D ≤ 1000
  rotate_left
  · have d3 : decide (D ≤ 1000) = false := decide_eq_false h3
    rw [d3, Bool.false_and]
    go_enter Tryz.func26, Tryz.ntmps26
    go_wp2
    go_ret
    exact ⟨rfl, (by repeat (first | with_reducible exact Below.refl _ _ | with_reducible assumption | with_reducible apply Below.drew | with_reducible apply below_drewN | (with_reducible apply below_setp; (first | omega | (simp <;> omega))) | (with_reducible apply below_allocp; (first | omega | (simp <;> omega))) | (with_reducible refine below_viap (by assumption) ?_ ?_; (first | omega | (simp <;> omega)))))⟩
  have d3 : decide (D ≤ 1000) = true := decide_eq_true h3
  rw [d3, Bool.true_and]
  by_cases h4 : 0 ≤ B
  rotate_left
  · have d4 : decide (0 ≤ B) = false := decide_eq_false h4
    rw [d4, Bool.false_and]
    go_enter Tryz.func26, Tryz.ntmps26
    go_wp2
    go_ret
    exact ⟨rfl, (by repeat (first | with_reducible exact Below.refl _ _ | with_reducible assumption | with_reducible apply Below.drew | with_reducible apply below_drewN | (with_reducible apply below_setp; (first | omega | (simp <;> omega))) | (with_reducible apply below_allocp; (first | omega | (simp <;> omega))) | (with_reducible refine below_viap (by assumption) ?_ ?_; (first | omega | (simp <;> omega)))))⟩
  have d4 : decide (0 ≤ B) = true := decide_eq_true h4
  rw [d4, Bool.true_and]
  by_cases h5 : B < A
  rotate_left
  · have d5 : decide (B < A) = false := decide_eq_false h5
    rw [d5]
    go_enter Tryz.func26, Tryz.ntmps26
    go_wp2
    go_ret
    exact ⟨rfl, (by repeat (first | with_reducible exact Below.refl _ _ | with_reducible assumption | with_reducible apply Below.drew | with_reducible apply below_drewN | (with_reducible apply below_setp; (first | omega | (simp <;> omega))) | (with_reducible apply below_allocp; (first | omega | (simp <;> omega))) | (with_reducible refine below_viap (by assumption) ?_ ?_; (first | omega | (simp <;> omega)))))⟩
  have d5 : decide (B < A) = true := decide_eq_true h5
  rw [d5]
  go_enter Tryz.func26, Tryz.ntmps26
  go_wp2
  go_ret
  exact ⟨rfl, (by repeat (first | with_reducible exact Below.refl _ _ | with_reducible assumption | with_reducible apply Below.drew | with_reducible apply below_drewN | (with_reducible apply below_setp; (first | omega | (simp <;> omega))) | (with_reducible apply below_allocp; (first | omega | (simp <;> omega))) | (with_reducible refine below_viap (by assumption) ?_ ?_; (first | omega | (simp <;> omega)))))⟩
set_option maxRecDepth 100000 in
set_option maxHeartbeats 6400000 in
theorem laGood_any (A B D : Int) (w : World) : Calls Tryz.prog 60 #[.agg #[.int .i64 A, .int .i64 B, .int .i64 D]] w fun x w' => x = .returned (.bool (laB A B D)) ∧ Below w.heap.size w w' := by
  unfold laB
  have hL0 := Lib.hid (fun w => l1In_any A 1 1000 w)
  have hL1 := Lib.hid (fun w => l1In_any D 1 1000 w)
  have hL2 := Lib.hid (fun w => l1In_any B 0 (A - 1) w)
  by_cases h0 : 1 ≤ A
  rotate_left
  · have d0 : decide (1 ≤ A) = false := decide_eq_false h0
    rw [d0, Bool.false_and]
    rw [d0] at hL0
    rw [Bool.false_and] at hL0
    go_enter Tryz.func60, Tryz.ntmps60
    go_wp2_with (first | (go_at_call 22; (with_reducible refine (hL0.out _).mono ?_); rintro e v ⟨rfl, rfl⟩) | (go_at_call 22; (with_reducible refine (hL1.out _).mono ?_); rintro e v ⟨rfl, rfl⟩) | (go_at_call 22; (with_reducible refine (hL2.out _).mono ?_); rintro e v ⟨rfl, rfl⟩))
    go_ret
    exact ⟨rfl, (by repeat (first | with_reducible exact Below.refl _ _ | with_reducible assumption | with_reducible apply Below.drew | with_reducible apply below_drewN | (with_reducible apply below_setp; (first | omega | (simp <;> omega))) | (with_reducible apply below_allocp; (first | omega | (simp <;> omega))) | (with_reducible refine below_viap (by assumption) ?_ ?_; (first | omega | (simp <;> omega)))))⟩
  have d0 : decide (1 ≤ A) = true := decide_eq_true h0
  rw [d0, Bool.true_and]
  rw [d0] at hL0
  rw [Bool.true_and] at hL0
  by_cases h1 : A ≤ 1000
  rotate_left
  · have d1 : decide (A ≤ 1000) = false := decide_eq_false h1
    rw [d1, Bool.false_and]
    rw [d1] at hL0
    go_enter Tryz.func60, Tryz.ntmps60
    go_wp2_with (first | (go_at_call 22; (with_reducible refine (hL0.out _).mono ?_); rintro e v ⟨rfl, rfl⟩) | (go_at_call 22; (with_reducible refine (hL1.out _).mono ?_); rintro e v ⟨rfl, rfl⟩) | (go_at_call 22; (with_reducible refine (hL2.out _).mono ?_); rintro e v ⟨rfl, rfl⟩))
    go_ret
    exact ⟨rfl, (by repeat (first | with_reducible exact Below.refl _ _ | with_reducible assumption | with_reducible apply Below.drew | with_reducible apply below_drewN | (with_reducible apply below_setp; (first | omega | (simp <;> omega))) | (with_reducible apply below_allocp; (first | omega | (simp <;> omega))) | (with_reducible refine below_viap (by assumption) ?_ ?_; (first | omega | (simp <;> omega)))))⟩
  have d1 : decide (A ≤ 1000) = true := decide_eq_true h1
  rw [d1, Bool.true_and]
  rw [d1] at hL0
  by_cases h2 : 1 ≤ D
  rotate_left
  · have d2 : decide (1 ≤ D) = false := decide_eq_false h2
    rw [d2, Bool.false_and]
    rw [d2] at hL1
    rw [Bool.false_and] at hL1
    go_enter Tryz.func60, Tryz.ntmps60
    go_wp2_with (first | (go_at_call 22; (with_reducible refine (hL0.out _).mono ?_); rintro e v ⟨rfl, rfl⟩) | (go_at_call 22; (with_reducible refine (hL1.out _).mono ?_); rintro e v ⟨rfl, rfl⟩) | (go_at_call 22; (with_reducible refine (hL2.out _).mono ?_); rintro e v ⟨rfl, rfl⟩))
    go_ret
    exact ⟨rfl, (by repeat (first | with_reducible exact Below.refl _ _ | with_reducible assumption | with_reducible apply Below.drew | with_reducible apply below_drewN | (with_reducible apply below_setp; (first | omega | (simp <;> omega))) | (with_reducible apply below_allocp; (first | omega | (simp <;> omega))) | (with_reducible refine below_viap (by assumption) ?_ ?_; (first | omega | (simp <;> omega)))))⟩
  have d2 : decide (1 ≤ D) = true := decide_eq_true h2
  rw [d2, Bool.true_and]
  rw [d2] at hL1
  rw [Bool.true_and] at hL1
  by_cases h3 : D ≤ 1000
  rotate_left
  · have d3 : decide (D ≤ 1000) = false := decide_eq_false h3
    rw [d3, Bool.false_and]
    rw [d3] at hL1
    go_enter Tryz.func60, Tryz.ntmps60
    go_wp2_with (first | (go_at_call 22; (with_reducible refine (hL0.out _).mono ?_); rintro e v ⟨rfl, rfl⟩) | (go_at_call 22; (with_reducible refine (hL1.out _).mono ?_); rintro e v ⟨rfl, rfl⟩) | (go_at_call 22; (with_reducible refine (hL2.out _).mono ?_); rintro e v ⟨rfl, rfl⟩))
    go_ret
    exact ⟨rfl, (by repeat (first | with_reducible exact Below.refl _ _ | with_reducible assumption | with_reducible apply Below.drew | with_reducible apply below_drewN | (with_reducible apply below_setp; (first | omega | (simp <;> omega))) | (with_reducible apply below_allocp; (first | omega | (simp <;> omega))) | (with_reducible refine below_viap (by assumption) ?_ ?_; (first | omega | (simp <;> omega)))))⟩
  have d3 : decide (D ≤ 1000) = true := decide_eq_true h3
  rw [d3, Bool.true_and]
  rw [d3] at hL1
  by_cases h4 : 0 ≤ B
  rotate_left
  · have d4 : decide (0 ≤ B) = false := decide_eq_false h4
    rw [d4, Bool.false_and]
    rw [d4] at hL2
    rw [Bool.false_and] at hL2
    have K1 := Lib.hid (show wrap64 (A - 1) = A - 1 from IntWalk.wrap64_in _ (by omega))
    have k1 := K1.out
    go_enter Tryz.func60, Tryz.ntmps60
    go_wp2_with (first | (go_at_call 22; (with_reducible refine (hL0.out _).mono ?_); rintro e v ⟨rfl, rfl⟩) | (go_at_call 22; (with_reducible refine (hL1.out _).mono ?_); rintro e v ⟨rfl, rfl⟩) | (go_at_call 22; (with_reducible refine (hL2.out _).mono ?_); rintro e v ⟨rfl, rfl⟩))
    go_ret
    exact ⟨rfl, (by repeat (first | with_reducible exact Below.refl _ _ | with_reducible assumption | with_reducible apply Below.drew | with_reducible apply below_drewN | (with_reducible apply below_setp; (first | omega | (simp <;> omega))) | (with_reducible apply below_allocp; (first | omega | (simp <;> omega))) | (with_reducible refine below_viap (by assumption) ?_ ?_; (first | omega | (simp <;> omega)))))⟩
  have d4 : decide (0 ≤ B) = true := decide_eq_true h4
  rw [d4, Bool.true_and]
  rw [d4] at hL2
  rw [Bool.true_and] at hL2
  by_cases h5 : B < A
  rotate_left
  · have d5 : decide (B < A) = false := decide_eq_false h5
    rw [d5]
    have d5b : decide (B ≤ A - 1) = false := decide_eq_false (by omega)
    rw [d5b] at hL2
    have K1 := Lib.hid (show wrap64 (A - 1) = A - 1 from IntWalk.wrap64_in _ (by omega))
    have k1 := K1.out
    go_enter Tryz.func60, Tryz.ntmps60
    go_wp2_with (first | (go_at_call 22; (with_reducible refine (hL0.out _).mono ?_); rintro e v ⟨rfl, rfl⟩) | (go_at_call 22; (with_reducible refine (hL1.out _).mono ?_); rintro e v ⟨rfl, rfl⟩) | (go_at_call 22; (with_reducible refine (hL2.out _).mono ?_); rintro e v ⟨rfl, rfl⟩))
    go_ret
    exact ⟨rfl, (by repeat (first | with_reducible exact Below.refl _ _ | with_reducible assumption | with_reducible apply Below.drew | with_reducible apply below_drewN | (with_reducible apply below_setp; (first | omega | (simp <;> omega))) | (with_reducible apply below_allocp; (first | omega | (simp <;> omega))) | (with_reducible refine below_viap (by assumption) ?_ ?_; (first | omega | (simp <;> omega)))))⟩
  have d5 : decide (B < A) = true := decide_eq_true h5
  rw [d5]
  have d5b : decide (B ≤ A - 1) = true := decide_eq_true (by omega)
  rw [d5b] at hL2
  have K1 := Lib.hid (show wrap64 (A - 1) = A - 1 from IntWalk.wrap64_in _ (by omega))
  have k1 := K1.out
  go_enter Tryz.func60, Tryz.ntmps60
  go_wp2_with (first | (go_at_call 22; (with_reducible refine (hL0.out _).mono ?_); rintro e v ⟨rfl, rfl⟩) | (go_at_call 22; (with_reducible refine (hL1.out _).mono ?_); rintro e v ⟨rfl, rfl⟩) | (go_at_call 22; (with_reducible refine (hL2.out _).mono ?_); rintro e v ⟨rfl, rfl⟩))
  go_ret
  exact ⟨rfl, (by repeat (first | with_reducible exact Below.refl _ _ | with_reducible assumption | with_reducible apply Below.drew | with_reducible apply below_drewN | (with_reducible apply below_setp; (first | omega | (simp <;> omega))) | (with_reducible apply below_allocp; (first | omega | (simp <;> omega))) | (with_reducible refine below_viap (by assumption) ?_ ?_; (first | omega | (simp <;> omega)))))⟩
set_option maxRecDepth 100000 in
set_option maxHeartbeats 6400000 in
theorem point_any (A B D i j : Int) (w : World) (V : LaV A B D) (hi : -4000000000 ≤ i ∧ i ≤ 4000000000) (hj : -4000000000 ≤ j ∧ j ≤ 4000000000) : Calls Tryz.prog 30 #[.agg #[.int .i64 A, .int .i64 B, .int .i64 D], .int .i64 i, .int .i64 j] w fun e w' => e = .returned (.agg #[.int .i64 (i * A + j * B), .int .i64 (j * D)]) ∧ Below w.heap.size w w' := by
  have v1 := V.a1; have v2 := V.a2; have v3 := V.d1; have v4 := V.d2; have v5 := V.b0; have v6 := V.b2
  have m1 := mul_bd (a := i) (x := A) (A := 4000000000) (X := 1000) (by omega) (by omega) (by omega) (by omega)
  have m2 := mul_bd (a := j) (x := B) (A := 4000000000) (X := 1000) (by omega) (by omega) (by omega) (by omega)
  have m3 := mul_bd (a := j) (x := D) (A := 4000000000) (X := 1000) (by omega) (by omega) (by omega) (by omega)
  have K1 := Lib.hid (show wrap64 (i * A) = i * A from IntWalk.wrap64_in _ (by omega))
  have K2 := Lib.hid (show wrap64 (j * B) = j * B from IntWalk.wrap64_in _ (by omega))
  have K3 := Lib.hid (show wrap64 (j * D) = j * D from IntWalk.wrap64_in _ (by omega))
  have K4 := Lib.hid (show wrap64 (i * A + j * B) = i * A + j * B from IntWalk.wrap64_in _ (by omega))
  clear m1 m2 m3 v1 v2 v3 v4 v5 v6 V hi hj
  have k1 := K1.out; have k2 := K2.out; have k3 := K3.out; have k4 := K4.out
  go_enter Tryz.func30, Tryz.ntmps30
  go_wp2
  exact bodyPost_ret (v := .agg #[.int .i64 (i * A + j * B), .int .i64 (j * D)]) (by simp [results, Tryz.results30, go_sem, *]) rfl ⟨rfl, (by repeat (first | with_reducible exact Below.refl _ _ | with_reducible assumption | with_reducible apply Below.drew | with_reducible apply below_drewN | (with_reducible apply below_setp; (first | omega | (simp <;> omega))) | (with_reducible apply below_allocp; (first | omega | (simp <;> omega))) | (with_reducible refine below_viap (by assumption) ?_ ?_; (first | omega | (simp <;> omega)))))⟩
set_option maxRecDepth 100000 in
set_option maxHeartbeats 6400000 in
theorem laPoint_any (A B D i j : Int) (w : World) (V : LaV A B D) (hi : -4000000000 ≤ i ∧ i ≤ 4000000000) (hj : -4000000000 ≤ j ∧ j ≤ 4000000000) : Calls Tryz.prog 37 #[.agg #[.int .i64 A, .int .i64 B, .int .i64 D], .int .i64 i, .int .i64 j] w fun e w' => e = .returned (.agg #[.int .i64 (i * A + j * B), .int .i64 (j * D)]) ∧ Below w.heap.size w w' := by
  have v1 := V.a1; have v2 := V.a2; have v3 := V.d1; have v4 := V.d2; have v5 := V.b0; have v6 := V.b2
  have m1 := mul_bd (a := i) (x := A) (A := 4000000000) (X := 1000) (by omega) (by omega) (by omega) (by omega)
  have m2 := mul_bd (a := j) (x := B) (A := 4000000000) (X := 1000) (by omega) (by omega) (by omega) (by omega)
  have m3 := mul_bd (a := j) (x := D) (A := 4000000000) (X := 1000) (by omega) (by omega) (by omega) (by omega)
  have K1 := Lib.hid (show wrap64 (i * A) = i * A from IntWalk.wrap64_in _ (by omega))
  have K2 := Lib.hid (show wrap64 (j * B) = j * B from IntWalk.wrap64_in _ (by omega))
  have K3 := Lib.hid (show wrap64 (j * D) = j * D from IntWalk.wrap64_in _ (by omega))
  have K4 := Lib.hid (show wrap64 (i * A + j * B) = i * A + j * B from IntWalk.wrap64_in _ (by omega))
  clear m1 m2 m3 v1 v2 v3 v4 v5 v6 V hi hj
  have k1 := K1.out; have k2 := K2.out; have k3 := K3.out; have k4 := K4.out
  go_enter Tryz.func37, Tryz.ntmps37
  go_wp2
  exact bodyPost_ret (v := .agg #[.int .i64 (i * A + j * B), .int .i64 (j * D)]) (by simp [results, Tryz.results37, go_sem, *]) rfl ⟨rfl, (by repeat (first | with_reducible exact Below.refl _ _ | with_reducible assumption | with_reducible apply Below.drew | with_reducible apply below_drewN | (with_reducible apply below_setp; (first | omega | (simp <;> omega))) | (with_reducible apply below_allocp; (first | omega | (simp <;> omega))) | (with_reducible refine below_viap (by assumption) ?_ ?_; (first | omega | (simp <;> omega)))))⟩
theorem atL_bd {a b c x y : Int} (ha : -1000000 ≤ a ∧ a ≤ 1000000) (hb : -1000000 ≤ b ∧ b ≤ 1000000) (hc : -1000000 ≤ c ∧ c ≤ 1000000) (hx : -1000 ≤ x ∧ x ≤ 1000) (hy : -1000 ≤ y ∧ y ≤ 1000) : AtOK a b c x y := by
  have p1 := mul_bd (a := a) (x := x) (A := 1000000) (X := 1000) (by omega) (by omega) (by omega) (by omega)
  have p2 := mul_bd (a := a * x) (x := x) (A := 1000000000) (X := 1000) (by omega) (by omega) (by omega) (by omega)
  have p3 := mul_bd (a := b) (x := x) (A := 1000000) (X := 1000) (by omega) (by omega) (by omega) (by omega)
  have p4 := mul_bd (a := b * x) (x := y) (A := 1000000000) (X := 1000) (by omega) (by omega) (by omega) (by omega)
  have p5 := mul_bd (a := c) (x := y) (A := 1000000) (X := 1000) (by omega) (by omega) (by omega) (by omega)
  have p6 := mul_bd (a := c * y) (x := y) (A := 1000000000) (X := 1000) (by omega) (by omega) (by omega) (by omega)
  exact ⟨by unfold Far; omega, by unfold Far; omega, by unfold Far; omega, by unfold Far; omega, by unfold Far; omega, by unfold Far; omega⟩
/-- The form on a lattice. -/
def laF (f : Fm) (A B D : Int) : Fm := ⟨atF f.a f.b f.c A 0, polF f.a f.b f.c A 0 B D, atF f.a f.b f.c B D⟩
theorem polL_bd {a b c x y u v : Int} (ha : -1000000 ≤ a ∧ a ≤ 1000000) (hb : -1000000 ≤ b ∧ b ≤ 1000000) (hc : -1000000 ≤ c ∧ c ≤ 1000000) (hx : -1000 ≤ x ∧ x ≤ 1000) (hy : -1000 ≤ y ∧ y ≤ 1000) (hu : -1000 ≤ u ∧ u ≤ 1000) (hv : -1000 ≤ v ∧ v ≤ 1000) : PolOK a b c x y u v := by
  have p1 := mul_bd (a := 2 * a) (x := x) (A := 2000000) (X := 1000) (by omega) (by omega) (by omega) (by omega)
  have p2 := mul_bd (a := 2 * a * x) (x := u) (A := 2000000000) (X := 1000) (by omega) (by omega) (by omega) (by omega)
  have p3 := mul_bd (a := x) (x := v) (A := 1000) (X := 1000) (by omega) (by omega) (by omega) (by omega)
  have p4 := mul_bd (a := y) (x := u) (A := 1000) (X := 1000) (by omega) (by omega) (by omega) (by omega)
  have p5 := mul_bd (a := b) (x := x * v + y * u) (A := 1000000) (X := 2000000) (by omega) (by omega) (by omega) (by omega)
  have p6 := mul_bd (a := 2 * c) (x := y) (A := 2000000) (X := 1000) (by omega) (by omega) (by omega) (by omega)
  have p7 := mul_bd (a := 2 * c * y) (x := v) (A := 2000000000) (X := 1000) (by omega) (by omega) (by omega) (by omega)
  exact ⟨by unfold Far; omega, by unfold Far; omega, by unfold Far; omega, by unfold Far; omega, by unfold Far; omega, by unfold Far; omega, by unfold Far; omega, by unfold Far; omega, by unfold Far; omega⟩
def laA (f : Fm) (A B D : Int) : Bool := isDefB f.a f.b f.c && (laB A B D && isFm (laF f A B D).a (laF f A B D).b (laF f A B D).c)
theorem defB_fm {a b c : Int} (h : isDefB a b c = true) : isFm a b c = true := by
  unfold isDefB at h
  rw [Bool.and_eq_true] at h
  exact h.1
set_option maxRecDepth 100000 in
set_option maxHeartbeats 6400000 in
theorem laForm_any (f : Fm) (A B D : Int) (w : World) (hf : isFm f.a f.b f.c = true) (V : LaV A B D) : Calls Tryz.prog 34 #[.agg #[.int .i64 f.a, .int .i64 f.b, .int .i64 f.c], .agg #[.int .i64 A, .int .i64 B, .int .i64 D]] w fun e w' => e = .returned (.agg #[.int .i64 (laF f A B D).a, .int .i64 (laF f A B D).b, .int .i64 (laF f A B D).c]) ∧ Below w.heap.size w w' := by
  obtain ⟨f1, f2, f3⟩ := isFm_bd hf
  have v1 := V.a1; have v2 := V.a2; have v3 := V.d1; have v4 := V.d2; have v5 := V.b0; have v6 := V.b2
  have hS := Lib.hid (fun w => foAct_any f.a f.b f.c A B 0 D w (atL_bd f1 f2 f3 (by omega) (by omega)) (polL_bd f1 f2 f3 (by omega) (by omega) (by omega) (by omega)) (atL_bd f1 f2 f3 (by omega) (by omega)))
  have e : (⟨atF f.a f.b f.c A 0, polF f.a f.b f.c A 0 B D, atF f.a f.b f.c B D⟩ : Fm) = laF f A B D := rfl
  obtain ⟨g, hg⟩ : ∃ g, laF f A B D = g := ⟨_, rfl⟩
  have ea : atF f.a f.b f.c A 0 = g.a := by rw [← hg]; rfl
  have eb : polF f.a f.b f.c A 0 B D = g.b := by rw [← hg]; rfl
  have ec : atF f.a f.b f.c B D = g.c := by rw [← hg]; rfl
  rw [ea, eb, ec] at hS
  rw [hg] 
  clear ea eb ec e hg f1 f2 f3 v1 v2 v3 v4 v5 v6 V hf
  go_enter Tryz.func34, Tryz.ntmps34
  go_wp2_with (go_at_call 64; (with_reducible refine (hS.out _).mono ?_); rintro e v1 ⟨rfl, hB1⟩; have hZ1 := hB1.size; (try simp at hZ1); (try have zl1 : w.heap.size < v1.heap.size := by omega); (try have ze1 : w.heap.size ≤ v1.heap.size := by omega); (try have zn1 : ¬ w.heap.size = v1.heap.size := by omega); (try have zm1 : ¬ v1.heap.size = w.heap.size := by omega); have hX1 : Blk v1 (w.heap.size) 36 #[.int .i64 f.a, .int .i64 f.b, .int .i64 f.c] := Blk.call (by (repeat (first | with_reducible assumption | (with_reducible apply Blk.new_at; (first | rfl | (simp; done))) | with_reducible apply Blk.store3 | with_reducible apply Blk.store4 | (with_reducible apply Blk.farp; (first | omega | (simp <;> omega))) | with_reducible apply Blk.allocp | with_reducible apply Blk.drew | with_reducible apply Blk.drewN))) hB1; have cX1 := hX1.cell; have fX1 := hX1.frozen; have lX1 := hX1.lt; have mX1 := Nat.ne_of_gt lX1; have nX1 := Nat.ne_of_lt lX1; have hL1 : Blk v1 (w.heap.size + 1) 32 #[.int .i64 A, .int .i64 B, .int .i64 D] := Blk.call (by (repeat (first | with_reducible assumption | (with_reducible apply Blk.new_at; (first | rfl | (simp; done))) | with_reducible apply Blk.store3 | with_reducible apply Blk.store4 | (with_reducible apply Blk.farp; (first | omega | (simp <;> omega))) | with_reducible apply Blk.allocp | with_reducible apply Blk.drew | with_reducible apply Blk.drewN))) hB1; have cL1 := hL1.cell; have fL1 := hL1.frozen; have lL1 := hL1.lt; have mL1 := Nat.ne_of_gt lL1; have nL1 := Nat.ne_of_lt lL1; have hR1 : Blk v1 (w.heap.size + 1 + 1) 36 #[.int .i64 0, .int .i64 0, .int .i64 0] := Blk.call (by (repeat (first | with_reducible assumption | (with_reducible apply Blk.new_at; (first | rfl | (simp; done))) | with_reducible apply Blk.store3 | with_reducible apply Blk.store4 | (with_reducible apply Blk.farp; (first | omega | (simp <;> omega))) | with_reducible apply Blk.allocp | with_reducible apply Blk.drew | with_reducible apply Blk.drewN))) hB1; have cR1 := hR1.cell; have fR1 := hR1.frozen; have lR1 := hR1.lt; have mR1 := Nat.ne_of_gt lR1; have nR1 := Nat.ne_of_lt lR1)
  exact bodyPost_ret (v := .agg #[.int .i64 g.a, .int .i64 g.b, .int .i64 g.c]) (by simp [results, Tryz.results34, go_sem, *]) rfl ⟨rfl, (by repeat (first | with_reducible exact Below.refl _ _ | with_reducible assumption | with_reducible apply Below.drew | with_reducible apply below_drewN | (with_reducible apply below_setp; (first | omega | (simp <;> omega))) | (with_reducible apply below_allocp; (first | omega | (simp <;> omega))) | (with_reducible refine below_viap (by assumption) ?_ ?_; (first | omega | (simp <;> omega)))))⟩
set_option maxRecDepth 100000 in
set_option maxHeartbeats 6400000 in
theorem laAsked_any (f : Fm) (A B D : Int) (w : World) : Calls Tryz.prog 32 #[.agg #[.int .i64 f.a, .int .i64 f.b, .int .i64 f.c], .agg #[.int .i64 A, .int .i64 B, .int .i64 D]] w fun e w' => e = .returned (.bool (laA f A B D)) ∧ Below w.heap.size w w' := by
  have hF := Lib.hid (fun w => sisDef_any f.a f.b f.c w)
  have hL := Lib.hid (fun w => laGood_any A B D w)
  unfold laA
  cases h1 : isDefB f.a f.b f.c with
  | false =>
    rw [h1] at hF
    rw [Bool.false_and]
    clear h1
    go_enter Tryz.func32, Tryz.ntmps32
    go_wp2_with (go_at_call 59; (with_reducible refine (hF.out _).mono ?_); rintro e v1 ⟨rfl, hB1⟩; have hZ1 := hB1.size; (try simp at hZ1); (try have zl1 : w.heap.size < v1.heap.size := by omega); (try have ze1 : w.heap.size ≤ v1.heap.size := by omega); (try have zn1 : ¬ w.heap.size = v1.heap.size := by omega); (try have zm1 : ¬ v1.heap.size = w.heap.size := by omega); have hX1 : Blk v1 (w.heap.size) 36 #[.int .i64 f.a, .int .i64 f.b, .int .i64 f.c] := Blk.call (by (repeat (first | with_reducible assumption | (with_reducible apply Blk.new_at; (first | rfl | (simp; done))) | with_reducible apply Blk.store3 | with_reducible apply Blk.store4 | (with_reducible apply Blk.farp; (first | omega | (simp <;> omega))) | with_reducible apply Blk.allocp | with_reducible apply Blk.drew | with_reducible apply Blk.drewN))) hB1; have cX1 := hX1.cell; have fX1 := hX1.frozen; have lX1 := hX1.lt; have mX1 := Nat.ne_of_gt lX1; have nX1 := Nat.ne_of_lt lX1; have hL1 : Blk v1 (w.heap.size + 1) 32 #[.int .i64 A, .int .i64 B, .int .i64 D] := Blk.call (by (repeat (first | with_reducible assumption | (with_reducible apply Blk.new_at; (first | rfl | (simp; done))) | with_reducible apply Blk.store3 | with_reducible apply Blk.store4 | (with_reducible apply Blk.farp; (first | omega | (simp <;> omega))) | with_reducible apply Blk.allocp | with_reducible apply Blk.drew | with_reducible apply Blk.drewN))) hB1; have cL1 := hL1.cell; have fL1 := hL1.frozen; have lL1 := hL1.lt; have mL1 := Nat.ne_of_gt lL1; have nL1 := Nat.ne_of_lt lL1)
    go_ret
    exact ⟨rfl, (by repeat (first | with_reducible exact Below.refl _ _ | with_reducible assumption | with_reducible apply Below.drew | with_reducible apply below_drewN | (with_reducible apply below_setp; (first | omega | (simp <;> omega))) | (with_reducible apply below_allocp; (first | omega | (simp <;> omega))) | (with_reducible refine below_viap (by assumption) ?_ ?_; (first | omega | (simp <;> omega)))))⟩
  | true =>
    rw [h1] at hF
    rw [Bool.true_and]
    cases h2 : laB A B D with
    | false =>
      rw [h2] at hL
      rw [Bool.false_and]
      clear h1 h2
      go_enter Tryz.func32, Tryz.ntmps32
      go_wp2_with (first | (go_at_call 59; (with_reducible refine (hF.out _).mono ?_); rintro e v1 ⟨rfl, hB1⟩; have hZ1 := hB1.size; (try simp at hZ1); (try have zl1 : w.heap.size < v1.heap.size := by omega); (try have ze1 : w.heap.size ≤ v1.heap.size := by omega); (try have zn1 : ¬ w.heap.size = v1.heap.size := by omega); (try have zm1 : ¬ v1.heap.size = w.heap.size := by omega); have hX1 : Blk v1 (w.heap.size) 36 #[.int .i64 f.a, .int .i64 f.b, .int .i64 f.c] := Blk.call (by (repeat (first | with_reducible assumption | (with_reducible apply Blk.new_at; (first | rfl | (simp; done))) | with_reducible apply Blk.store3 | with_reducible apply Blk.store4 | (with_reducible apply Blk.farp; (first | omega | (simp <;> omega))) | with_reducible apply Blk.allocp | with_reducible apply Blk.drew | with_reducible apply Blk.drewN))) hB1; have cX1 := hX1.cell; have fX1 := hX1.frozen; have lX1 := hX1.lt; have mX1 := Nat.ne_of_gt lX1; have nX1 := Nat.ne_of_lt lX1; have hL1 : Blk v1 (w.heap.size + 1) 32 #[.int .i64 A, .int .i64 B, .int .i64 D] := Blk.call (by (repeat (first | with_reducible assumption | (with_reducible apply Blk.new_at; (first | rfl | (simp; done))) | with_reducible apply Blk.store3 | with_reducible apply Blk.store4 | (with_reducible apply Blk.farp; (first | omega | (simp <;> omega))) | with_reducible apply Blk.allocp | with_reducible apply Blk.drew | with_reducible apply Blk.drewN))) hB1; have cL1 := hL1.cell; have fL1 := hL1.frozen; have lL1 := hL1.lt; have mL1 := Nat.ne_of_gt lL1; have nL1 := Nat.ne_of_lt lL1) | (go_at_call 60; (with_reducible refine (hL.out _).mono ?_); rintro e v2 ⟨rfl, hB2⟩; have hZ2 := hB2.size; (try simp at hZ2); (try have zl2 : w.heap.size < v2.heap.size := by omega); (try have ze2 : w.heap.size ≤ v2.heap.size := by omega); (try have zn2 : ¬ w.heap.size = v2.heap.size := by omega); (try have zm2 : ¬ v2.heap.size = w.heap.size := by omega); have hX2 : Blk v2 (w.heap.size) 36 #[.int .i64 f.a, .int .i64 f.b, .int .i64 f.c] := Blk.call (by (repeat (first | with_reducible assumption | (with_reducible apply Blk.new_at; (first | rfl | (simp; done))) | with_reducible apply Blk.store3 | with_reducible apply Blk.store4 | (with_reducible apply Blk.farp; (first | omega | (simp <;> omega))) | with_reducible apply Blk.allocp | with_reducible apply Blk.drew | with_reducible apply Blk.drewN))) hB2; have cX2 := hX2.cell; have fX2 := hX2.frozen; have lX2 := hX2.lt; have mX2 := Nat.ne_of_gt lX2; have nX2 := Nat.ne_of_lt lX2; have hL2 : Blk v2 (w.heap.size + 1) 32 #[.int .i64 A, .int .i64 B, .int .i64 D] := Blk.call (by (repeat (first | with_reducible assumption | (with_reducible apply Blk.new_at; (first | rfl | (simp; done))) | with_reducible apply Blk.store3 | with_reducible apply Blk.store4 | (with_reducible apply Blk.farp; (first | omega | (simp <;> omega))) | with_reducible apply Blk.allocp | with_reducible apply Blk.drew | with_reducible apply Blk.drewN))) hB2; have cL2 := hL2.cell; have fL2 := hL2.frozen; have lL2 := hL2.lt; have mL2 := Nat.ne_of_gt lL2; have nL2 := Nat.ne_of_lt lL2))
      go_ret
      exact ⟨rfl, (by repeat (first | with_reducible exact Below.refl _ _ | with_reducible assumption | with_reducible apply Below.drew | with_reducible apply below_drewN | (with_reducible apply below_setp; (first | omega | (simp <;> omega))) | (with_reducible apply below_allocp; (first | omega | (simp <;> omega))) | (with_reducible refine below_viap (by assumption) ?_ ?_; (first | omega | (simp <;> omega)))))⟩
    | true =>
      rw [h2] at hL
      rw [Bool.true_and]
      have hM := Lib.hid (fun w => laForm_any f A B D w (defB_fm h1) (laB_iff.1 h2))
      generalize laF f A B D = g at *
      have hG := Lib.hid (fun w => foGood_any g.a g.b g.c w)
      clear h1 h2
      generalize isFm g.a g.b g.c = bo at *
      go_enter Tryz.func32, Tryz.ntmps32
      go_wp2_with (first | (go_at_call 59; (with_reducible refine (hF.out _).mono ?_); rintro e v1 ⟨rfl, hB1⟩; have hZ1 := hB1.size; (try simp at hZ1); (try have zl1 : w.heap.size < v1.heap.size := by omega); (try have ze1 : w.heap.size ≤ v1.heap.size := by omega); (try have zn1 : ¬ w.heap.size = v1.heap.size := by omega); (try have zm1 : ¬ v1.heap.size = w.heap.size := by omega); have hX1 : Blk v1 (w.heap.size) 36 #[.int .i64 f.a, .int .i64 f.b, .int .i64 f.c] := Blk.call (by (repeat (first | with_reducible assumption | (with_reducible apply Blk.new_at; (first | rfl | (simp; done))) | with_reducible apply Blk.store3 | with_reducible apply Blk.store4 | (with_reducible apply Blk.farp; (first | omega | (simp <;> omega))) | with_reducible apply Blk.allocp | with_reducible apply Blk.drew | with_reducible apply Blk.drewN))) hB1; have cX1 := hX1.cell; have fX1 := hX1.frozen; have lX1 := hX1.lt; have mX1 := Nat.ne_of_gt lX1; have nX1 := Nat.ne_of_lt lX1; have hL1 : Blk v1 (w.heap.size + 1) 32 #[.int .i64 A, .int .i64 B, .int .i64 D] := Blk.call (by (repeat (first | with_reducible assumption | (with_reducible apply Blk.new_at; (first | rfl | (simp; done))) | with_reducible apply Blk.store3 | with_reducible apply Blk.store4 | (with_reducible apply Blk.farp; (first | omega | (simp <;> omega))) | with_reducible apply Blk.allocp | with_reducible apply Blk.drew | with_reducible apply Blk.drewN))) hB1; have cL1 := hL1.cell; have fL1 := hL1.frozen; have lL1 := hL1.lt; have mL1 := Nat.ne_of_gt lL1; have nL1 := Nat.ne_of_lt lL1) | (go_at_call 60; (with_reducible refine (hL.out _).mono ?_); rintro e v2 ⟨rfl, hB2⟩; have hZ2 := hB2.size; (try simp at hZ2); (try have zl2 : w.heap.size < v2.heap.size := by omega); (try have ze2 : w.heap.size ≤ v2.heap.size := by omega); (try have zn2 : ¬ w.heap.size = v2.heap.size := by omega); (try have zm2 : ¬ v2.heap.size = w.heap.size := by omega); have hX2 : Blk v2 (w.heap.size) 36 #[.int .i64 f.a, .int .i64 f.b, .int .i64 f.c] := Blk.call (by (repeat (first | with_reducible assumption | (with_reducible apply Blk.new_at; (first | rfl | (simp; done))) | with_reducible apply Blk.store3 | with_reducible apply Blk.store4 | (with_reducible apply Blk.farp; (first | omega | (simp <;> omega))) | with_reducible apply Blk.allocp | with_reducible apply Blk.drew | with_reducible apply Blk.drewN))) hB2; have cX2 := hX2.cell; have fX2 := hX2.frozen; have lX2 := hX2.lt; have mX2 := Nat.ne_of_gt lX2; have nX2 := Nat.ne_of_lt lX2; have hL2 : Blk v2 (w.heap.size + 1) 32 #[.int .i64 A, .int .i64 B, .int .i64 D] := Blk.call (by (repeat (first | with_reducible assumption | (with_reducible apply Blk.new_at; (first | rfl | (simp; done))) | with_reducible apply Blk.store3 | with_reducible apply Blk.store4 | (with_reducible apply Blk.farp; (first | omega | (simp <;> omega))) | with_reducible apply Blk.allocp | with_reducible apply Blk.drew | with_reducible apply Blk.drewN))) hB2; have cL2 := hL2.cell; have fL2 := hL2.frozen; have lL2 := hL2.lt; have mL2 := Nat.ne_of_gt lL2; have nL2 := Nat.ne_of_lt lL2) | (go_at_call 34; (with_reducible refine (hM.out _).mono ?_); rintro e v3 ⟨rfl, hB3⟩; have hZ3 := hB3.size; (try simp at hZ3); (try have zl3 : w.heap.size < v3.heap.size := by omega); (try have ze3 : w.heap.size ≤ v3.heap.size := by omega); (try have zn3 : ¬ w.heap.size = v3.heap.size := by omega); (try have zm3 : ¬ v3.heap.size = w.heap.size := by omega); have hX3 : Blk v3 (w.heap.size) 36 #[.int .i64 f.a, .int .i64 f.b, .int .i64 f.c] := Blk.call (by (repeat (first | with_reducible assumption | (with_reducible apply Blk.new_at; (first | rfl | (simp; done))) | with_reducible apply Blk.store3 | with_reducible apply Blk.store4 | (with_reducible apply Blk.farp; (first | omega | (simp <;> omega))) | with_reducible apply Blk.allocp | with_reducible apply Blk.drew | with_reducible apply Blk.drewN))) hB3; have cX3 := hX3.cell; have fX3 := hX3.frozen; have lX3 := hX3.lt; have mX3 := Nat.ne_of_gt lX3; have nX3 := Nat.ne_of_lt lX3; have hL3 : Blk v3 (w.heap.size + 1) 32 #[.int .i64 A, .int .i64 B, .int .i64 D] := Blk.call (by (repeat (first | with_reducible assumption | (with_reducible apply Blk.new_at; (first | rfl | (simp; done))) | with_reducible apply Blk.store3 | with_reducible apply Blk.store4 | (with_reducible apply Blk.farp; (first | omega | (simp <;> omega))) | with_reducible apply Blk.allocp | with_reducible apply Blk.drew | with_reducible apply Blk.drewN))) hB3; have cL3 := hL3.cell; have fL3 := hL3.frozen; have lL3 := hL3.lt; have mL3 := Nat.ne_of_gt lL3; have nL3 := Nat.ne_of_lt lL3) | (go_at_call 61; (with_reducible refine (hG.out _).mono ?_); rintro e v4 ⟨rfl, hB4⟩; have hZ4 := hB4.size; (try simp at hZ4); (try have zl4 : w.heap.size < v4.heap.size := by omega); (try have ze4 : w.heap.size ≤ v4.heap.size := by omega); (try have zn4 : ¬ w.heap.size = v4.heap.size := by omega); (try have zm4 : ¬ v4.heap.size = w.heap.size := by omega); have hX4 : Blk v4 (w.heap.size) 36 #[.int .i64 f.a, .int .i64 f.b, .int .i64 f.c] := Blk.call (by (repeat (first | with_reducible assumption | (with_reducible apply Blk.new_at; (first | rfl | (simp; done))) | with_reducible apply Blk.store3 | with_reducible apply Blk.store4 | (with_reducible apply Blk.farp; (first | omega | (simp <;> omega))) | with_reducible apply Blk.allocp | with_reducible apply Blk.drew | with_reducible apply Blk.drewN))) hB4; have cX4 := hX4.cell; have fX4 := hX4.frozen; have lX4 := hX4.lt; have mX4 := Nat.ne_of_gt lX4; have nX4 := Nat.ne_of_lt lX4; have hL4 : Blk v4 (w.heap.size + 1) 32 #[.int .i64 A, .int .i64 B, .int .i64 D] := Blk.call (by (repeat (first | with_reducible assumption | (with_reducible apply Blk.new_at; (first | rfl | (simp; done))) | with_reducible apply Blk.store3 | with_reducible apply Blk.store4 | (with_reducible apply Blk.farp; (first | omega | (simp <;> omega))) | with_reducible apply Blk.allocp | with_reducible apply Blk.drew | with_reducible apply Blk.drewN))) hB4; have cL4 := hL4.cell; have fL4 := hL4.frozen; have lL4 := hL4.lt; have mL4 := Nat.ne_of_gt lL4; have nL4 := Nat.ne_of_lt lL4))
      go_ret
      exact ⟨rfl, (by repeat (first | with_reducible exact Below.refl _ _ | with_reducible assumption | with_reducible apply Below.drew | with_reducible apply below_drewN | (with_reducible apply below_setp; (first | omega | (simp <;> omega))) | (with_reducible apply below_allocp; (first | omega | (simp <;> omega))) | (with_reducible refine below_viap (by assumption) ?_ ?_; (first | omega | (simp <;> omega)))))⟩
set_option maxRecDepth 100000 in
set_option maxHeartbeats 6400000 in
theorem implFL_any (f : Fm) (A B D : Int) (w : World) : Calls Tryz.prog 14 #[.agg #[.int .i64 f.a, .int .i64 f.b, .int .i64 f.c], .agg #[.int .i64 A, .int .i64 B, .int .i64 D]] w fun e w' => e = .returned (.tuple #[.agg (if laA f A B D = true then #[.int .i64 (laF f A B D).a, .int .i64 (laF f A B D).b, .int .i64 (laF f A B D).c] else #[.int .i64 0, .int .i64 0, .int .i64 0]), .bool (laA f A B D)]) ∧ Below w.heap.size w w' := by
  have hF := Lib.hid (fun w => iisDef_any f.a f.b f.c w)
  have hL := Lib.hid (fun w => isLattice_any A B D w)
  unfold laA
  cases h1 : isDefB f.a f.b f.c with
  | false =>
    rw [h1] at hF
    rw [Bool.false_and, if_neg (by decide)]
    clear h1
    go_enter Tryz.func14, Tryz.ntmps14
    go_wp2_with (go_at_call 38; (with_reducible refine (hF.out _).mono ?_); rintro e v1 ⟨rfl, hB1⟩; have hZ1 := hB1.size; (try simp at hZ1); (try have zl1 : w.heap.size < v1.heap.size := by omega); (try have ze1 : w.heap.size ≤ v1.heap.size := by omega); (try have zn1 : ¬ w.heap.size = v1.heap.size := by omega); (try have zm1 : ¬ v1.heap.size = w.heap.size := by omega); have hX1 : Blk v1 (w.heap.size) 36 #[.int .i64 f.a, .int .i64 f.b, .int .i64 f.c] := Blk.call (by (repeat (first | with_reducible assumption | (with_reducible apply Blk.new_at; (first | rfl | (simp; done))) | with_reducible apply Blk.store3 | with_reducible apply Blk.store4 | (with_reducible apply Blk.farp; (first | omega | (simp <;> omega))) | with_reducible apply Blk.allocp | with_reducible apply Blk.drew | with_reducible apply Blk.drewN))) hB1; have cX1 := hX1.cell; have fX1 := hX1.frozen; have lX1 := hX1.lt; have mX1 := Nat.ne_of_gt lX1; have nX1 := Nat.ne_of_lt lX1; have hL1 : Blk v1 (w.heap.size + 1) 32 #[.int .i64 A, .int .i64 B, .int .i64 D] := Blk.call (by (repeat (first | with_reducible assumption | (with_reducible apply Blk.new_at; (first | rfl | (simp; done))) | with_reducible apply Blk.store3 | with_reducible apply Blk.store4 | (with_reducible apply Blk.farp; (first | omega | (simp <;> omega))) | with_reducible apply Blk.allocp | with_reducible apply Blk.drew | with_reducible apply Blk.drewN))) hB1; have cL1 := hL1.cell; have fL1 := hL1.frozen; have lL1 := hL1.lt; have mL1 := Nat.ne_of_gt lL1; have nL1 := Nat.ne_of_lt lL1; have hR1 : Blk v1 (w.heap.size + 1 + 1) 36 #[.int .i64 0, .int .i64 0, .int .i64 0] := Blk.call (by (repeat (first | with_reducible assumption | (with_reducible apply Blk.new_at; (first | rfl | (simp; done))) | with_reducible apply Blk.store3 | with_reducible apply Blk.store4 | (with_reducible apply Blk.farp; (first | omega | (simp <;> omega))) | with_reducible apply Blk.allocp | with_reducible apply Blk.drew | with_reducible apply Blk.drewN))) hB1; have cR1 := hR1.cell; have fR1 := hR1.frozen; have lR1 := hR1.lt; have mR1 := Nat.ne_of_gt lR1; have nR1 := Nat.ne_of_lt lR1)
    exact bodyPost_ret (v := .tuple #[.agg #[.int .i64 0, .int .i64 0, .int .i64 0], .bool false]) (by simp [results, Tryz.results14, go_sem, *]) rfl ⟨rfl, (by repeat (first | with_reducible exact Below.refl _ _ | with_reducible assumption | with_reducible apply Below.drew | with_reducible apply below_drewN | (with_reducible apply below_setp; (first | omega | (simp <;> omega))) | (with_reducible apply below_allocp; (first | omega | (simp <;> omega))) | (with_reducible refine below_viap (by assumption) ?_ ?_; (first | omega | (simp <;> omega)))))⟩
  | true =>
    rw [h1] at hF
    rw [Bool.true_and]
    cases h2 : laB A B D with
    | false =>
      rw [h2] at hL
      rw [Bool.false_and, if_neg (by decide)]
      clear h1 h2
      go_enter Tryz.func14, Tryz.ntmps14
      go_wp2_with (first | (go_at_call 38; (with_reducible refine (hF.out _).mono ?_); rintro e v1 ⟨rfl, hB1⟩; have hZ1 := hB1.size; (try simp at hZ1); (try have zl1 : w.heap.size < v1.heap.size := by omega); (try have ze1 : w.heap.size ≤ v1.heap.size := by omega); (try have zn1 : ¬ w.heap.size = v1.heap.size := by omega); (try have zm1 : ¬ v1.heap.size = w.heap.size := by omega); have hX1 : Blk v1 (w.heap.size) 36 #[.int .i64 f.a, .int .i64 f.b, .int .i64 f.c] := Blk.call (by (repeat (first | with_reducible assumption | (with_reducible apply Blk.new_at; (first | rfl | (simp; done))) | with_reducible apply Blk.store3 | with_reducible apply Blk.store4 | (with_reducible apply Blk.farp; (first | omega | (simp <;> omega))) | with_reducible apply Blk.allocp | with_reducible apply Blk.drew | with_reducible apply Blk.drewN))) hB1; have cX1 := hX1.cell; have fX1 := hX1.frozen; have lX1 := hX1.lt; have mX1 := Nat.ne_of_gt lX1; have nX1 := Nat.ne_of_lt lX1; have hL1 : Blk v1 (w.heap.size + 1) 32 #[.int .i64 A, .int .i64 B, .int .i64 D] := Blk.call (by (repeat (first | with_reducible assumption | (with_reducible apply Blk.new_at; (first | rfl | (simp; done))) | with_reducible apply Blk.store3 | with_reducible apply Blk.store4 | (with_reducible apply Blk.farp; (first | omega | (simp <;> omega))) | with_reducible apply Blk.allocp | with_reducible apply Blk.drew | with_reducible apply Blk.drewN))) hB1; have cL1 := hL1.cell; have fL1 := hL1.frozen; have lL1 := hL1.lt; have mL1 := Nat.ne_of_gt lL1; have nL1 := Nat.ne_of_lt lL1; have hR1 : Blk v1 (w.heap.size + 1 + 1) 36 #[.int .i64 0, .int .i64 0, .int .i64 0] := Blk.call (by (repeat (first | with_reducible assumption | (with_reducible apply Blk.new_at; (first | rfl | (simp; done))) | with_reducible apply Blk.store3 | with_reducible apply Blk.store4 | (with_reducible apply Blk.farp; (first | omega | (simp <;> omega))) | with_reducible apply Blk.allocp | with_reducible apply Blk.drew | with_reducible apply Blk.drewN))) hB1; have cR1 := hR1.cell; have fR1 := hR1.frozen; have lR1 := hR1.lt; have mR1 := Nat.ne_of_gt lR1; have nR1 := Nat.ne_of_lt lR1) | (go_at_call 26; (with_reducible refine (hL.out _).mono ?_); rintro e v2 ⟨rfl, hB2⟩; have hZ2 := hB2.size; (try simp at hZ2); (try have zl2 : w.heap.size < v2.heap.size := by omega); (try have ze2 : w.heap.size ≤ v2.heap.size := by omega); (try have zn2 : ¬ w.heap.size = v2.heap.size := by omega); (try have zm2 : ¬ v2.heap.size = w.heap.size := by omega); have hX2 : Blk v2 (w.heap.size) 36 #[.int .i64 f.a, .int .i64 f.b, .int .i64 f.c] := Blk.call (by (repeat (first | with_reducible assumption | (with_reducible apply Blk.new_at; (first | rfl | (simp; done))) | with_reducible apply Blk.store3 | with_reducible apply Blk.store4 | (with_reducible apply Blk.farp; (first | omega | (simp <;> omega))) | with_reducible apply Blk.allocp | with_reducible apply Blk.drew | with_reducible apply Blk.drewN))) hB2; have cX2 := hX2.cell; have fX2 := hX2.frozen; have lX2 := hX2.lt; have mX2 := Nat.ne_of_gt lX2; have nX2 := Nat.ne_of_lt lX2; have hL2 : Blk v2 (w.heap.size + 1) 32 #[.int .i64 A, .int .i64 B, .int .i64 D] := Blk.call (by (repeat (first | with_reducible assumption | (with_reducible apply Blk.new_at; (first | rfl | (simp; done))) | with_reducible apply Blk.store3 | with_reducible apply Blk.store4 | (with_reducible apply Blk.farp; (first | omega | (simp <;> omega))) | with_reducible apply Blk.allocp | with_reducible apply Blk.drew | with_reducible apply Blk.drewN))) hB2; have cL2 := hL2.cell; have fL2 := hL2.frozen; have lL2 := hL2.lt; have mL2 := Nat.ne_of_gt lL2; have nL2 := Nat.ne_of_lt lL2; have hR2 : Blk v2 (w.heap.size + 1 + 1) 36 #[.int .i64 0, .int .i64 0, .int .i64 0] := Blk.call (by (repeat (first | with_reducible assumption | (with_reducible apply Blk.new_at; (first | rfl | (simp; done))) | with_reducible apply Blk.store3 | with_reducible apply Blk.store4 | (with_reducible apply Blk.farp; (first | omega | (simp <;> omega))) | with_reducible apply Blk.allocp | with_reducible apply Blk.drew | with_reducible apply Blk.drewN))) hB2; have cR2 := hR2.cell; have fR2 := hR2.frozen; have lR2 := hR2.lt; have mR2 := Nat.ne_of_gt lR2; have nR2 := Nat.ne_of_lt lR2))
      exact bodyPost_ret (v := .tuple #[.agg #[.int .i64 0, .int .i64 0, .int .i64 0], .bool false]) (by simp [results, Tryz.results14, go_sem, *]) rfl ⟨rfl, (by repeat (first | with_reducible exact Below.refl _ _ | with_reducible assumption | with_reducible apply Below.drew | with_reducible apply below_drewN | (with_reducible apply below_setp; (first | omega | (simp <;> omega))) | (with_reducible apply below_allocp; (first | omega | (simp <;> omega))) | (with_reducible refine below_viap (by assumption) ?_ ?_; (first | omega | (simp <;> omega)))))⟩
    | true =>
      rw [h2] at hL
      rw [Bool.true_and]
      have hf := defB_fm h1
      have V := laB_iff.1 h2
      clear h1 h2
      obtain ⟨f1, f2, f3⟩ := isFm_bd hf
      have v1 := V.a1; have v2 := V.a2; have v3 := V.d1; have v4 := V.d2; have v5 := V.b0; have v6 := V.b2
      have hS := Lib.hid (fun w => substitute_any f.a f.b f.c A B 0 D w (atL_bd f1 f2 f3 (by omega) (by omega)) (polL_bd f1 f2 f3 (by omega) (by omega) (by omega) (by omega)) (atL_bd f1 f2 f3 (by omega) (by omega)))
      have e : (⟨atF f.a f.b f.c A 0, polF f.a f.b f.c A 0 B D, atF f.a f.b f.c B D⟩ : Fm) = laF f A B D := rfl
      obtain ⟨g, hg⟩ : ∃ g, laF f A B D = g := ⟨_, rfl⟩
      have ea : atF f.a f.b f.c A 0 = g.a := by rw [← hg]; rfl
      have eb : polF f.a f.b f.c A 0 B D = g.b := by rw [← hg]; rfl
      have ec : atF f.a f.b f.c B D = g.c := by rw [← hg]; rfl
      rw [ea, eb, ec] at hS
      rw [hg] 
      clear ea eb ec e hg f1 f2 f3 v1 v2 v3 v4 v5 v6 V hf
      have hG := Lib.hid (fun w => IsForm_any g.a g.b g.c w)
      cases h3 : isFm g.a g.b g.c with
      | false =>
        rw [h3] at hG
        rw [if_neg (by decide)]
        clear h3
        go_enter Tryz.func14, Tryz.ntmps14
        go_wp2_with (first | (go_at_call 38; (with_reducible refine (hF.out _).mono ?_); rintro e v1 ⟨rfl, hB1⟩; have hZ1 := hB1.size; (try simp at hZ1); (try have zl1 : w.heap.size < v1.heap.size := by omega); (try have ze1 : w.heap.size ≤ v1.heap.size := by omega); (try have zn1 : ¬ w.heap.size = v1.heap.size := by omega); (try have zm1 : ¬ v1.heap.size = w.heap.size := by omega); have hX1 : Blk v1 (w.heap.size) 36 #[.int .i64 f.a, .int .i64 f.b, .int .i64 f.c] := Blk.call (by (repeat (first | with_reducible assumption | (with_reducible apply Blk.new_at; (first | rfl | (simp; done))) | with_reducible apply Blk.store3 | with_reducible apply Blk.store4 | (with_reducible apply Blk.farp; (first | omega | (simp <;> omega))) | with_reducible apply Blk.allocp | with_reducible apply Blk.drew | with_reducible apply Blk.drewN))) hB1; have cX1 := hX1.cell; have fX1 := hX1.frozen; have lX1 := hX1.lt; have mX1 := Nat.ne_of_gt lX1; have nX1 := Nat.ne_of_lt lX1; have hL1 : Blk v1 (w.heap.size + 1) 32 #[.int .i64 A, .int .i64 B, .int .i64 D] := Blk.call (by (repeat (first | with_reducible assumption | (with_reducible apply Blk.new_at; (first | rfl | (simp; done))) | with_reducible apply Blk.store3 | with_reducible apply Blk.store4 | (with_reducible apply Blk.farp; (first | omega | (simp <;> omega))) | with_reducible apply Blk.allocp | with_reducible apply Blk.drew | with_reducible apply Blk.drewN))) hB1; have cL1 := hL1.cell; have fL1 := hL1.frozen; have lL1 := hL1.lt; have mL1 := Nat.ne_of_gt lL1; have nL1 := Nat.ne_of_lt lL1; have hR1 : Blk v1 (w.heap.size + 1 + 1) 36 #[.int .i64 0, .int .i64 0, .int .i64 0] := Blk.call (by (repeat (first | with_reducible assumption | (with_reducible apply Blk.new_at; (first | rfl | (simp; done))) | with_reducible apply Blk.store3 | with_reducible apply Blk.store4 | (with_reducible apply Blk.farp; (first | omega | (simp <;> omega))) | with_reducible apply Blk.allocp | with_reducible apply Blk.drew | with_reducible apply Blk.drewN))) hB1; have cR1 := hR1.cell; have fR1 := hR1.frozen; have lR1 := hR1.lt; have mR1 := Nat.ne_of_gt lR1; have nR1 := Nat.ne_of_lt lR1) | (go_at_call 26; (with_reducible refine (hL.out _).mono ?_); rintro e v2 ⟨rfl, hB2⟩; have hZ2 := hB2.size; (try simp at hZ2); (try have zl2 : w.heap.size < v2.heap.size := by omega); (try have ze2 : w.heap.size ≤ v2.heap.size := by omega); (try have zn2 : ¬ w.heap.size = v2.heap.size := by omega); (try have zm2 : ¬ v2.heap.size = w.heap.size := by omega); have hX2 : Blk v2 (w.heap.size) 36 #[.int .i64 f.a, .int .i64 f.b, .int .i64 f.c] := Blk.call (by (repeat (first | with_reducible assumption | (with_reducible apply Blk.new_at; (first | rfl | (simp; done))) | with_reducible apply Blk.store3 | with_reducible apply Blk.store4 | (with_reducible apply Blk.farp; (first | omega | (simp <;> omega))) | with_reducible apply Blk.allocp | with_reducible apply Blk.drew | with_reducible apply Blk.drewN))) hB2; have cX2 := hX2.cell; have fX2 := hX2.frozen; have lX2 := hX2.lt; have mX2 := Nat.ne_of_gt lX2; have nX2 := Nat.ne_of_lt lX2; have hL2 : Blk v2 (w.heap.size + 1) 32 #[.int .i64 A, .int .i64 B, .int .i64 D] := Blk.call (by (repeat (first | with_reducible assumption | (with_reducible apply Blk.new_at; (first | rfl | (simp; done))) | with_reducible apply Blk.store3 | with_reducible apply Blk.store4 | (with_reducible apply Blk.farp; (first | omega | (simp <;> omega))) | with_reducible apply Blk.allocp | with_reducible apply Blk.drew | with_reducible apply Blk.drewN))) hB2; have cL2 := hL2.cell; have fL2 := hL2.frozen; have lL2 := hL2.lt; have mL2 := Nat.ne_of_gt lL2; have nL2 := Nat.ne_of_lt lL2; have hR2 : Blk v2 (w.heap.size + 1 + 1) 36 #[.int .i64 0, .int .i64 0, .int .i64 0] := Blk.call (by (repeat (first | with_reducible assumption | (with_reducible apply Blk.new_at; (first | rfl | (simp; done))) | with_reducible apply Blk.store3 | with_reducible apply Blk.store4 | (with_reducible apply Blk.farp; (first | omega | (simp <;> omega))) | with_reducible apply Blk.allocp | with_reducible apply Blk.drew | with_reducible apply Blk.drewN))) hB2; have cR2 := hR2.cell; have fR2 := hR2.frozen; have lR2 := hR2.lt; have mR2 := Nat.ne_of_gt lR2; have nR2 := Nat.ne_of_lt lR2) | (go_at_call 39; (with_reducible refine (hS.out _).mono ?_); rintro e v3 ⟨rfl, hB3⟩; have hZ3 := hB3.size; (try simp at hZ3); (try have zl3 : w.heap.size < v3.heap.size := by omega); (try have ze3 : w.heap.size ≤ v3.heap.size := by omega); (try have zn3 : ¬ w.heap.size = v3.heap.size := by omega); (try have zm3 : ¬ v3.heap.size = w.heap.size := by omega); have hX3 : Blk v3 (w.heap.size) 36 #[.int .i64 f.a, .int .i64 f.b, .int .i64 f.c] := Blk.call (by (repeat (first | with_reducible assumption | (with_reducible apply Blk.new_at; (first | rfl | (simp; done))) | with_reducible apply Blk.store3 | with_reducible apply Blk.store4 | (with_reducible apply Blk.farp; (first | omega | (simp <;> omega))) | with_reducible apply Blk.allocp | with_reducible apply Blk.drew | with_reducible apply Blk.drewN))) hB3; have cX3 := hX3.cell; have fX3 := hX3.frozen; have lX3 := hX3.lt; have mX3 := Nat.ne_of_gt lX3; have nX3 := Nat.ne_of_lt lX3; have hL3 : Blk v3 (w.heap.size + 1) 32 #[.int .i64 A, .int .i64 B, .int .i64 D] := Blk.call (by (repeat (first | with_reducible assumption | (with_reducible apply Blk.new_at; (first | rfl | (simp; done))) | with_reducible apply Blk.store3 | with_reducible apply Blk.store4 | (with_reducible apply Blk.farp; (first | omega | (simp <;> omega))) | with_reducible apply Blk.allocp | with_reducible apply Blk.drew | with_reducible apply Blk.drewN))) hB3; have cL3 := hL3.cell; have fL3 := hL3.frozen; have lL3 := hL3.lt; have mL3 := Nat.ne_of_gt lL3; have nL3 := Nat.ne_of_lt lL3; have hR3 : Blk v3 (w.heap.size + 1 + 1) 36 #[.int .i64 0, .int .i64 0, .int .i64 0] := Blk.call (by (repeat (first | with_reducible assumption | (with_reducible apply Blk.new_at; (first | rfl | (simp; done))) | with_reducible apply Blk.store3 | with_reducible apply Blk.store4 | (with_reducible apply Blk.farp; (first | omega | (simp <;> omega))) | with_reducible apply Blk.allocp | with_reducible apply Blk.drew | with_reducible apply Blk.drewN))) hB3; have cR3 := hR3.cell; have fR3 := hR3.frozen; have lR3 := hR3.lt; have mR3 := Nat.ne_of_gt lR3; have nR3 := Nat.ne_of_lt lR3) | (go_at_call 40; (with_reducible refine (hG.out _).mono ?_); rintro e v4 ⟨rfl, hB4⟩; have hZ4 := hB4.size; (try simp at hZ4); (try have zl4 : w.heap.size < v4.heap.size := by omega); (try have ze4 : w.heap.size ≤ v4.heap.size := by omega); (try have zn4 : ¬ w.heap.size = v4.heap.size := by omega); (try have zm4 : ¬ v4.heap.size = w.heap.size := by omega); have hX4 : Blk v4 (w.heap.size) 36 #[.int .i64 f.a, .int .i64 f.b, .int .i64 f.c] := Blk.call (by (repeat (first | with_reducible assumption | (with_reducible apply Blk.new_at; (first | rfl | (simp; done))) | with_reducible apply Blk.store3 | with_reducible apply Blk.store4 | (with_reducible apply Blk.farp; (first | omega | (simp <;> omega))) | with_reducible apply Blk.allocp | with_reducible apply Blk.drew | with_reducible apply Blk.drewN))) hB4; have cX4 := hX4.cell; have fX4 := hX4.frozen; have lX4 := hX4.lt; have mX4 := Nat.ne_of_gt lX4; have nX4 := Nat.ne_of_lt lX4; have hL4 : Blk v4 (w.heap.size + 1) 32 #[.int .i64 A, .int .i64 B, .int .i64 D] := Blk.call (by (repeat (first | with_reducible assumption | (with_reducible apply Blk.new_at; (first | rfl | (simp; done))) | with_reducible apply Blk.store3 | with_reducible apply Blk.store4 | (with_reducible apply Blk.farp; (first | omega | (simp <;> omega))) | with_reducible apply Blk.allocp | with_reducible apply Blk.drew | with_reducible apply Blk.drewN))) hB4; have cL4 := hL4.cell; have fL4 := hL4.frozen; have lL4 := hL4.lt; have mL4 := Nat.ne_of_gt lL4; have nL4 := Nat.ne_of_lt lL4; have hR4 : Blk v4 (w.heap.size + 1 + 1) 36 #[.int .i64 0, .int .i64 0, .int .i64 0] := Blk.call (by (repeat (first | with_reducible assumption | (with_reducible apply Blk.new_at; (first | rfl | (simp; done))) | with_reducible apply Blk.store3 | with_reducible apply Blk.store4 | (with_reducible apply Blk.farp; (first | omega | (simp <;> omega))) | with_reducible apply Blk.allocp | with_reducible apply Blk.drew | with_reducible apply Blk.drewN))) hB4; have cR4 := hR4.cell; have fR4 := hR4.frozen; have lR4 := hR4.lt; have mR4 := Nat.ne_of_gt lR4; have nR4 := Nat.ne_of_lt lR4; have hG4 : Blk v4 (v3.heap.size) 36 #[.int .i64 g.a, .int .i64 g.b, .int .i64 g.c] := Blk.call (by (repeat (first | with_reducible assumption | (with_reducible apply Blk.new_at; (first | rfl | (simp; done))) | with_reducible apply Blk.store3 | with_reducible apply Blk.store4 | (with_reducible apply Blk.farp; (first | omega | (simp <;> omega))) | with_reducible apply Blk.allocp | with_reducible apply Blk.drew | with_reducible apply Blk.drewN))) hB4; have cG4 := hG4.cell; have fG4 := hG4.frozen; have lG4 := hG4.lt; have mG4 := Nat.ne_of_gt lG4; have nG4 := Nat.ne_of_lt lG4))
        exact bodyPost_ret (v := .tuple #[.agg #[.int .i64 0, .int .i64 0, .int .i64 0], .bool false]) (by simp [results, Tryz.results14, go_sem, *]) rfl ⟨rfl, (by repeat (first | with_reducible exact Below.refl _ _ | with_reducible assumption | with_reducible apply Below.drew | with_reducible apply below_drewN | (with_reducible apply below_setp; (first | omega | (simp <;> omega))) | (with_reducible apply below_allocp; (first | omega | (simp <;> omega))) | (with_reducible refine below_viap (by assumption) ?_ ?_; (first | omega | (simp <;> omega)))))⟩
      | true =>
        rw [h3] at hG
        rw [if_pos rfl]
        clear h3
        go_enter Tryz.func14, Tryz.ntmps14
        go_wp2_with (first | (go_at_call 38; (with_reducible refine (hF.out _).mono ?_); rintro e v1 ⟨rfl, hB1⟩; have hZ1 := hB1.size; (try simp at hZ1); (try have zl1 : w.heap.size < v1.heap.size := by omega); (try have ze1 : w.heap.size ≤ v1.heap.size := by omega); (try have zn1 : ¬ w.heap.size = v1.heap.size := by omega); (try have zm1 : ¬ v1.heap.size = w.heap.size := by omega); have hX1 : Blk v1 (w.heap.size) 36 #[.int .i64 f.a, .int .i64 f.b, .int .i64 f.c] := Blk.call (by (repeat (first | with_reducible assumption | (with_reducible apply Blk.new_at; (first | rfl | (simp; done))) | with_reducible apply Blk.store3 | with_reducible apply Blk.store4 | (with_reducible apply Blk.farp; (first | omega | (simp <;> omega))) | with_reducible apply Blk.allocp | with_reducible apply Blk.drew | with_reducible apply Blk.drewN))) hB1; have cX1 := hX1.cell; have fX1 := hX1.frozen; have lX1 := hX1.lt; have mX1 := Nat.ne_of_gt lX1; have nX1 := Nat.ne_of_lt lX1; have hL1 : Blk v1 (w.heap.size + 1) 32 #[.int .i64 A, .int .i64 B, .int .i64 D] := Blk.call (by (repeat (first | with_reducible assumption | (with_reducible apply Blk.new_at; (first | rfl | (simp; done))) | with_reducible apply Blk.store3 | with_reducible apply Blk.store4 | (with_reducible apply Blk.farp; (first | omega | (simp <;> omega))) | with_reducible apply Blk.allocp | with_reducible apply Blk.drew | with_reducible apply Blk.drewN))) hB1; have cL1 := hL1.cell; have fL1 := hL1.frozen; have lL1 := hL1.lt; have mL1 := Nat.ne_of_gt lL1; have nL1 := Nat.ne_of_lt lL1; have hR1 : Blk v1 (w.heap.size + 1 + 1) 36 #[.int .i64 0, .int .i64 0, .int .i64 0] := Blk.call (by (repeat (first | with_reducible assumption | (with_reducible apply Blk.new_at; (first | rfl | (simp; done))) | with_reducible apply Blk.store3 | with_reducible apply Blk.store4 | (with_reducible apply Blk.farp; (first | omega | (simp <;> omega))) | with_reducible apply Blk.allocp | with_reducible apply Blk.drew | with_reducible apply Blk.drewN))) hB1; have cR1 := hR1.cell; have fR1 := hR1.frozen; have lR1 := hR1.lt; have mR1 := Nat.ne_of_gt lR1; have nR1 := Nat.ne_of_lt lR1) | (go_at_call 26; (with_reducible refine (hL.out _).mono ?_); rintro e v2 ⟨rfl, hB2⟩; have hZ2 := hB2.size; (try simp at hZ2); (try have zl2 : w.heap.size < v2.heap.size := by omega); (try have ze2 : w.heap.size ≤ v2.heap.size := by omega); (try have zn2 : ¬ w.heap.size = v2.heap.size := by omega); (try have zm2 : ¬ v2.heap.size = w.heap.size := by omega); have hX2 : Blk v2 (w.heap.size) 36 #[.int .i64 f.a, .int .i64 f.b, .int .i64 f.c] := Blk.call (by (repeat (first | with_reducible assumption | (with_reducible apply Blk.new_at; (first | rfl | (simp; done))) | with_reducible apply Blk.store3 | with_reducible apply Blk.store4 | (with_reducible apply Blk.farp; (first | omega | (simp <;> omega))) | with_reducible apply Blk.allocp | with_reducible apply Blk.drew | with_reducible apply Blk.drewN))) hB2; have cX2 := hX2.cell; have fX2 := hX2.frozen; have lX2 := hX2.lt; have mX2 := Nat.ne_of_gt lX2; have nX2 := Nat.ne_of_lt lX2; have hL2 : Blk v2 (w.heap.size + 1) 32 #[.int .i64 A, .int .i64 B, .int .i64 D] := Blk.call (by (repeat (first | with_reducible assumption | (with_reducible apply Blk.new_at; (first | rfl | (simp; done))) | with_reducible apply Blk.store3 | with_reducible apply Blk.store4 | (with_reducible apply Blk.farp; (first | omega | (simp <;> omega))) | with_reducible apply Blk.allocp | with_reducible apply Blk.drew | with_reducible apply Blk.drewN))) hB2; have cL2 := hL2.cell; have fL2 := hL2.frozen; have lL2 := hL2.lt; have mL2 := Nat.ne_of_gt lL2; have nL2 := Nat.ne_of_lt lL2; have hR2 : Blk v2 (w.heap.size + 1 + 1) 36 #[.int .i64 0, .int .i64 0, .int .i64 0] := Blk.call (by (repeat (first | with_reducible assumption | (with_reducible apply Blk.new_at; (first | rfl | (simp; done))) | with_reducible apply Blk.store3 | with_reducible apply Blk.store4 | (with_reducible apply Blk.farp; (first | omega | (simp <;> omega))) | with_reducible apply Blk.allocp | with_reducible apply Blk.drew | with_reducible apply Blk.drewN))) hB2; have cR2 := hR2.cell; have fR2 := hR2.frozen; have lR2 := hR2.lt; have mR2 := Nat.ne_of_gt lR2; have nR2 := Nat.ne_of_lt lR2) | (go_at_call 39; (with_reducible refine (hS.out _).mono ?_); rintro e v3 ⟨rfl, hB3⟩; have hZ3 := hB3.size; (try simp at hZ3); (try have zl3 : w.heap.size < v3.heap.size := by omega); (try have ze3 : w.heap.size ≤ v3.heap.size := by omega); (try have zn3 : ¬ w.heap.size = v3.heap.size := by omega); (try have zm3 : ¬ v3.heap.size = w.heap.size := by omega); have hX3 : Blk v3 (w.heap.size) 36 #[.int .i64 f.a, .int .i64 f.b, .int .i64 f.c] := Blk.call (by (repeat (first | with_reducible assumption | (with_reducible apply Blk.new_at; (first | rfl | (simp; done))) | with_reducible apply Blk.store3 | with_reducible apply Blk.store4 | (with_reducible apply Blk.farp; (first | omega | (simp <;> omega))) | with_reducible apply Blk.allocp | with_reducible apply Blk.drew | with_reducible apply Blk.drewN))) hB3; have cX3 := hX3.cell; have fX3 := hX3.frozen; have lX3 := hX3.lt; have mX3 := Nat.ne_of_gt lX3; have nX3 := Nat.ne_of_lt lX3; have hL3 : Blk v3 (w.heap.size + 1) 32 #[.int .i64 A, .int .i64 B, .int .i64 D] := Blk.call (by (repeat (first | with_reducible assumption | (with_reducible apply Blk.new_at; (first | rfl | (simp; done))) | with_reducible apply Blk.store3 | with_reducible apply Blk.store4 | (with_reducible apply Blk.farp; (first | omega | (simp <;> omega))) | with_reducible apply Blk.allocp | with_reducible apply Blk.drew | with_reducible apply Blk.drewN))) hB3; have cL3 := hL3.cell; have fL3 := hL3.frozen; have lL3 := hL3.lt; have mL3 := Nat.ne_of_gt lL3; have nL3 := Nat.ne_of_lt lL3; have hR3 : Blk v3 (w.heap.size + 1 + 1) 36 #[.int .i64 0, .int .i64 0, .int .i64 0] := Blk.call (by (repeat (first | with_reducible assumption | (with_reducible apply Blk.new_at; (first | rfl | (simp; done))) | with_reducible apply Blk.store3 | with_reducible apply Blk.store4 | (with_reducible apply Blk.farp; (first | omega | (simp <;> omega))) | with_reducible apply Blk.allocp | with_reducible apply Blk.drew | with_reducible apply Blk.drewN))) hB3; have cR3 := hR3.cell; have fR3 := hR3.frozen; have lR3 := hR3.lt; have mR3 := Nat.ne_of_gt lR3; have nR3 := Nat.ne_of_lt lR3) | (go_at_call 40; (with_reducible refine (hG.out _).mono ?_); rintro e v4 ⟨rfl, hB4⟩; have hZ4 := hB4.size; (try simp at hZ4); (try have zl4 : w.heap.size < v4.heap.size := by omega); (try have ze4 : w.heap.size ≤ v4.heap.size := by omega); (try have zn4 : ¬ w.heap.size = v4.heap.size := by omega); (try have zm4 : ¬ v4.heap.size = w.heap.size := by omega); have hX4 : Blk v4 (w.heap.size) 36 #[.int .i64 f.a, .int .i64 f.b, .int .i64 f.c] := Blk.call (by (repeat (first | with_reducible assumption | (with_reducible apply Blk.new_at; (first | rfl | (simp; done))) | with_reducible apply Blk.store3 | with_reducible apply Blk.store4 | (with_reducible apply Blk.farp; (first | omega | (simp <;> omega))) | with_reducible apply Blk.allocp | with_reducible apply Blk.drew | with_reducible apply Blk.drewN))) hB4; have cX4 := hX4.cell; have fX4 := hX4.frozen; have lX4 := hX4.lt; have mX4 := Nat.ne_of_gt lX4; have nX4 := Nat.ne_of_lt lX4; have hL4 : Blk v4 (w.heap.size + 1) 32 #[.int .i64 A, .int .i64 B, .int .i64 D] := Blk.call (by (repeat (first | with_reducible assumption | (with_reducible apply Blk.new_at; (first | rfl | (simp; done))) | with_reducible apply Blk.store3 | with_reducible apply Blk.store4 | (with_reducible apply Blk.farp; (first | omega | (simp <;> omega))) | with_reducible apply Blk.allocp | with_reducible apply Blk.drew | with_reducible apply Blk.drewN))) hB4; have cL4 := hL4.cell; have fL4 := hL4.frozen; have lL4 := hL4.lt; have mL4 := Nat.ne_of_gt lL4; have nL4 := Nat.ne_of_lt lL4; have hR4 : Blk v4 (w.heap.size + 1 + 1) 36 #[.int .i64 0, .int .i64 0, .int .i64 0] := Blk.call (by (repeat (first | with_reducible assumption | (with_reducible apply Blk.new_at; (first | rfl | (simp; done))) | with_reducible apply Blk.store3 | with_reducible apply Blk.store4 | (with_reducible apply Blk.farp; (first | omega | (simp <;> omega))) | with_reducible apply Blk.allocp | with_reducible apply Blk.drew | with_reducible apply Blk.drewN))) hB4; have cR4 := hR4.cell; have fR4 := hR4.frozen; have lR4 := hR4.lt; have mR4 := Nat.ne_of_gt lR4; have nR4 := Nat.ne_of_lt lR4; have hG4 : Blk v4 (v3.heap.size) 36 #[.int .i64 g.a, .int .i64 g.b, .int .i64 g.c] := Blk.call (by (repeat (first | with_reducible assumption | (with_reducible apply Blk.new_at; (first | rfl | (simp; done))) | with_reducible apply Blk.store3 | with_reducible apply Blk.store4 | (with_reducible apply Blk.farp; (first | omega | (simp <;> omega))) | with_reducible apply Blk.allocp | with_reducible apply Blk.drew | with_reducible apply Blk.drewN))) hB4; have cG4 := hG4.cell; have fG4 := hG4.frozen; have lG4 := hG4.lt; have mG4 := Nat.ne_of_gt lG4; have nG4 := Nat.ne_of_lt lG4))
        exact bodyPost_ret (v := .tuple #[.agg #[.int .i64 g.a, .int .i64 g.b, .int .i64 g.c], .bool true]) (by simp [results, Tryz.results14, go_sem, *]) rfl ⟨rfl, (by repeat (first | with_reducible exact Below.refl _ _ | with_reducible assumption | with_reducible apply Below.drew | with_reducible apply below_drewN | (with_reducible apply below_setp; (first | omega | (simp <;> omega))) | (with_reducible apply below_allocp; (first | omega | (simp <;> omega))) | (with_reducible refine below_viap (by assumption) ?_ ?_; (first | omega | (simp <;> omega)))))⟩
end Go.Proofs.YtblcmkhkbgikoaaGreat
