/- Parts RH RI RJ RK laid together by tp.py. -/
import Derived.Test.YtohgccgbbipjjaaGreatK7
import Derived.Test.YtohgccgbbipjjaaGreatNA
import Derived.Test.YtohgccgbbipjjaaGreatXD
import Derived.Test.YtohgccgbbipjjaaGreatEP
import Derived.Deep.DeepCutAuto
namespace Go.Proofs.YtohgccgbbipjjaaGreat
section
open Go.RowKit

def idR (d a b : Int) : Int := (b * b - d) % (4 * a)
def idB (d e a b : Int) : Bool := isDisc d && (decide (1 ≤ e) && (decide (e ≤ 10000) && (decide (1 ≤ a) && (decide (a ≤ 10000) && (decide (0 ≤ b) && (decide (b < 2 * a) && decide (idR d a b = 0)))))))
/-- What is said of a valid ideal. -/
structure IdV (d e a b : Int) : Prop where
  dc : isDisc d = true
  e1 : 1 ≤ e
  e2 : e ≤ 10000
  a1 : 1 ≤ a
  a2 : a ≤ 10000
  b0 : 0 ≤ b
  b2 : b < 2 * a
  r : (b * b - d) % (4 * a) = 0
theorem idB_iff {d e a b : Int} : idB d e a b = true ↔ IdV d e a b := by
  unfold idB idR
  simp only [Bool.and_eq_true, decide_eq_true_eq]
  exact ⟨fun ⟨h1, h2, h3, h4, h5, h6, h7, h8⟩ => ⟨h1, h2, h3, h4, h5, h6, h7, h8⟩, fun h => ⟨h.dc, h.e1, h.e2, h.a1, h.a2, h.b0, h.b2, h.r⟩⟩
set_option maxRecDepth 100000 in
set_option maxHeartbeats 3200000 in
theorem isIdeal_any (d e a b : Int) (w : World) : Calls Tryz.prog 66 #[.int .i64 d, .agg #[.int .i64 e, .int .i64 a, .int .i64 b]] w fun x w' => x = .returned (.bool (idB d e a b)) ∧ Below w.heap.size w w' := by
  unfold idB
  cases hc : isDisc d with
  | false =>
    rw [Bool.false_and]
    go_enter Tryz.func66, Tryz.ntmps66
    go_wp2_with (go_at_call 53; (with_reducible refine (negDisc_eq d false _ hc).mono ?_); rintro e v ⟨rfl, rfl⟩)
    go_ret
    exact ⟨rfl, (by repeat (first | with_reducible exact Below.refl _ _ | with_reducible assumption | with_reducible apply Below.drew | with_reducible apply below_drewN | (with_reducible apply below_setp; (first | omega | (simp <;> omega))) | (with_reducible apply below_allocp; (first | omega | (simp <;> omega))) | (with_reducible refine below_viap (by assumption) ?_ ?_; (first | omega | (simp <;> omega)))))⟩
  | true =>
    rw [Bool.true_and]
    have hc0 := hc
    unfold isDisc at hc0
    simp only [Bool.and_eq_true, decide_eq_true_eq] at hc0
    obtain ⟨q1, q2, _⟩ := hc0
    by_cases h0 : 1 ≤ e
    rotate_left
    · have d0 : decide (1 ≤ e) = false := decide_eq_false h0
      rw [d0, Bool.false_and]
      go_enter Tryz.func66, Tryz.ntmps66
      go_wp2_with (go_at_call 53; (with_reducible refine (negDisc_eq d true _ hc).mono ?_); rintro e v ⟨rfl, rfl⟩)
      go_ret
      exact ⟨rfl, (by repeat (first | with_reducible exact Below.refl _ _ | with_reducible assumption | with_reducible apply Below.drew | with_reducible apply below_drewN | (with_reducible apply below_setp; (first | omega | (simp <;> omega))) | (with_reducible apply below_allocp; (first | omega | (simp <;> omega))) | (with_reducible refine below_viap (by assumption) ?_ ?_; (first | omega | (simp <;> omega)))))⟩
    have d0 : decide (1 ≤ e) = true := decide_eq_true h0
    rw [d0, Bool.true_and]
    by_cases h1 : e ≤ 10000
    rotate_left
    · have d1 : decide (e ≤ 10000) = false := decide_eq_false h1
      rw [d1, Bool.false_and]
      go_enter Tryz.func66, Tryz.ntmps66
      go_wp2_with (go_at_call 53; (with_reducible refine (negDisc_eq d true _ hc).mono ?_); rintro e v ⟨rfl, rfl⟩)
      go_ret
      exact ⟨rfl, (by repeat (first | with_reducible exact Below.refl _ _ | with_reducible assumption | with_reducible apply Below.drew | with_reducible apply below_drewN | (with_reducible apply below_setp; (first | omega | (simp <;> omega))) | (with_reducible apply below_allocp; (first | omega | (simp <;> omega))) | (with_reducible refine below_viap (by assumption) ?_ ?_; (first | omega | (simp <;> omega)))))⟩
    have d1 : decide (e ≤ 10000) = true := decide_eq_true h1
    rw [d1, Bool.true_and]
    by_cases h2 : 1 ≤ a
    rotate_left
    · have d2 : decide (1 ≤ a) = false := decide_eq_false h2
      rw [d2, Bool.false_and]
      go_enter Tryz.func66, Tryz.ntmps66
      go_wp2_with (go_at_call 53; (with_reducible refine (negDisc_eq d true _ hc).mono ?_); rintro e v ⟨rfl, rfl⟩)
      go_ret
      exact ⟨rfl, (by repeat (first | with_reducible exact Below.refl _ _ | with_reducible assumption | with_reducible apply Below.drew | with_reducible apply below_drewN | (with_reducible apply below_setp; (first | omega | (simp <;> omega))) | (with_reducible apply below_allocp; (first | omega | (simp <;> omega))) | (with_reducible refine below_viap (by assumption) ?_ ?_; (first | omega | (simp <;> omega)))))⟩
    have d2 : decide (1 ≤ a) = true := decide_eq_true h2
    rw [d2, Bool.true_and]
    by_cases h3 : a ≤ 10000
    rotate_left
    · have d3 : decide (a ≤ 10000) = false := decide_eq_false h3
      rw [d3, Bool.false_and]
      go_enter Tryz.func66, Tryz.ntmps66
      go_wp2_with (go_at_call 53; (with_reducible refine (negDisc_eq d true _ hc).mono ?_); rintro e v ⟨rfl, rfl⟩)
      go_ret
      exact ⟨rfl, (by repeat (first | with_reducible exact Below.refl _ _ | with_reducible assumption | with_reducible apply Below.drew | with_reducible apply below_drewN | (with_reducible apply below_setp; (first | omega | (simp <;> omega))) | (with_reducible apply below_allocp; (first | omega | (simp <;> omega))) | (with_reducible refine below_viap (by assumption) ?_ ?_; (first | omega | (simp <;> omega)))))⟩
    have d3 : decide (a ≤ 10000) = true := decide_eq_true h3
    rw [d3, Bool.true_and]
    by_cases h4 : 0 ≤ b
    rotate_left
    · have d4 : decide (0 ≤ b) = false := decide_eq_false h4
      rw [d4, Bool.false_and]
      go_enter Tryz.func66, Tryz.ntmps66
      go_wp2_with (go_at_call 53; (with_reducible refine (negDisc_eq d true _ hc).mono ?_); rintro e v ⟨rfl, rfl⟩)
      go_ret
      exact ⟨rfl, (by repeat (first | with_reducible exact Below.refl _ _ | with_reducible assumption | with_reducible apply Below.drew | with_reducible apply below_drewN | (with_reducible apply below_setp; (first | omega | (simp <;> omega))) | (with_reducible apply below_allocp; (first | omega | (simp <;> omega))) | (with_reducible refine below_viap (by assumption) ?_ ?_; (first | omega | (simp <;> omega)))))⟩
    have d4 : decide (0 ≤ b) = true := decide_eq_true h4
    rw [d4, Bool.true_and]
    by_cases h5 : b < 2 * a
    rotate_left
    · have d5 : decide (b < 2 * a) = false := decide_eq_false h5
      rw [d5, Bool.false_and]
      go_enter Tryz.func66, Tryz.ntmps66
      go_wp2_with (go_at_call 53; (with_reducible refine (negDisc_eq d true _ hc).mono ?_); rintro e v ⟨rfl, rfl⟩)
      go_ret
      exact ⟨rfl, (by repeat (first | with_reducible exact Below.refl _ _ | with_reducible assumption | with_reducible apply Below.drew | with_reducible apply below_drewN | (with_reducible apply below_setp; (first | omega | (simp <;> omega))) | (with_reducible apply below_allocp; (first | omega | (simp <;> omega))) | (with_reducible refine below_viap (by assumption) ?_ ?_; (first | omega | (simp <;> omega)))))⟩
    have d5 : decide (b < 2 * a) = true := decide_eq_true h5
    rw [d5, Bool.true_and]
    have bb := mul_bd (a := b) (x := b) (A := 20000) (X := 20000) (by omega) (by omega) (by omega) (by omega)
    have bb0 : 0 ≤ b * b := Int.mul_nonneg h4 h4
    have hr1 : (b * b - d) % (4 * a) = idR d a b := rfl
    have hr2 : (b * b - d).tmod (4 * a) = idR d a b := by unfold idR; exact Int.tmod_eq_emod_of_nonneg (by omega)
    have hw1 : wrap64 (b * b) = b * b := IntWalk.wrap64_in _ (by omega)
    have hw2 : IntKind.i64.wrap (b * b) = b * b := IntWalk.i64_in _ (by omega)
    have hz : ¬ 4 * a = 0 := by omega
    have hz2 : (4 * a == 0) = false := beq_eq_false_iff_ne.2 hz
    have hw3 : wrap64 (b * b - d) = b * b - d := IntWalk.wrap64_in _ (by omega)
    generalize idR d a b = r at *
    go_enter Tryz.func66, Tryz.ntmps66
    go_wp2_with (go_at_call 53; (with_reducible refine (negDisc_eq d true _ hc).mono ?_); rintro e v ⟨rfl, rfl⟩)
    go_ret
    exact ⟨by first | rfl | (rw [show decide (r = 0) = (r == 0) from (Bool.eq_iff_iff.2 (by simp))]; rfl), (by repeat (first | with_reducible exact Below.refl _ _ | with_reducible assumption | with_reducible apply Below.drew | with_reducible apply below_drewN | (with_reducible apply below_setp; (first | omega | (simp <;> omega))) | (with_reducible apply below_allocp; (first | omega | (simp <;> omega))) | (with_reducible refine below_viap (by assumption) ?_ ?_; (first | omega | (simp <;> omega)))))⟩
set_option maxRecDepth 100000 in
set_option maxHeartbeats 3200000 in
theorem validIdeal_any (d e a b : Int) (w : World) : Calls Tryz.prog 31 #[.int .i64 d, .agg #[.int .i64 e, .int .i64 a, .int .i64 b]] w fun x w' => x = .returned (.tuple #[.agg (if idB d e a b = true then #[.int .i64 e, .int .i64 a, .int .i64 b] else #[.int .i64 0, .int .i64 0, .int .i64 0]), .bool (idB d e a b)]) ∧ Below w.heap.size w w' := by
  have hI := Lib.hid (fun w => isIdeal_any d e a b w)
  cases hx : idB d e a b with
  | false =>
    rw [hx] at hI
    rw [if_neg (by simp)]
    go_enter Tryz.func31, Tryz.ntmps31
    go_wp2_with (go_at_call 66; (with_reducible refine (hI.out _).mono ?_); rintro e v1 ⟨rfl, hB1⟩; have hZ1 := hB1.size; (try simp at hZ1); (try have zl1 : w.heap.size < v1.heap.size := by omega); (try have ze1 : w.heap.size ≤ v1.heap.size := by omega); (try have zn1 : ¬ w.heap.size = v1.heap.size := by omega); (try have zm1 : ¬ v1.heap.size = w.heap.size := by omega); have hA1 : Blk v1 (w.heap.size) 25 #[.int .i64 e, .int .i64 a, .int .i64 b] := Blk.call (by (repeat (first | with_reducible assumption | (with_reducible apply Blk.new_at; (first | rfl | (simp; done))) | with_reducible apply Blk.store3 | with_reducible apply Blk.store4 | (with_reducible apply Blk.farp; (first | omega | (simp <;> omega))) | with_reducible apply Blk.allocp | with_reducible apply Blk.drew | with_reducible apply Blk.drewN))) hB1; have cA1 := hA1.cell; have fA1 := hA1.frozen; have lA1 := hA1.lt; have mA1 := Nat.ne_of_gt lA1; have nA1 := Nat.ne_of_lt lA1; have hR1 : Blk v1 (w.heap.size + 1) 25 #[.int .i64 0, .int .i64 0, .int .i64 0] := Blk.call (by (repeat (first | with_reducible assumption | (with_reducible apply Blk.new_at; (first | rfl | (simp; done))) | with_reducible apply Blk.store3 | with_reducible apply Blk.store4 | (with_reducible apply Blk.farp; (first | omega | (simp <;> omega))) | with_reducible apply Blk.allocp | with_reducible apply Blk.drew | with_reducible apply Blk.drewN))) hB1; have cR1 := hR1.cell; have fR1 := hR1.frozen; have lR1 := hR1.lt; have mR1 := Nat.ne_of_gt lR1; have nR1 := Nat.ne_of_lt lR1)
    exact bodyPost_ret (v := .tuple #[.agg #[.int .i64 0, .int .i64 0, .int .i64 0], .bool false]) (by simp [results, Tryz.results31, go_sem, *]) rfl ⟨rfl, (by repeat (first | with_reducible exact Below.refl _ _ | with_reducible assumption | with_reducible apply Below.drew | with_reducible apply below_drewN | (with_reducible apply below_setp; (first | omega | (simp <;> omega))) | (with_reducible apply below_allocp; (first | omega | (simp <;> omega))) | (with_reducible refine below_viap (by assumption) ?_ ?_; (first | omega | (simp <;> omega)))))⟩
  | true =>
    rw [hx] at hI
    rw [if_pos rfl]
    go_enter Tryz.func31, Tryz.ntmps31
    go_wp2_with (go_at_call 66; (with_reducible refine (hI.out _).mono ?_); rintro e v1 ⟨rfl, hB1⟩; have hZ1 := hB1.size; (try simp at hZ1); (try have zl1 : w.heap.size < v1.heap.size := by omega); (try have ze1 : w.heap.size ≤ v1.heap.size := by omega); (try have zn1 : ¬ w.heap.size = v1.heap.size := by omega); (try have zm1 : ¬ v1.heap.size = w.heap.size := by omega); have hA1 : Blk v1 (w.heap.size) 25 #[.int .i64 e, .int .i64 a, .int .i64 b] := Blk.call (by (repeat (first | with_reducible assumption | (with_reducible apply Blk.new_at; (first | rfl | (simp; done))) | with_reducible apply Blk.store3 | with_reducible apply Blk.store4 | (with_reducible apply Blk.farp; (first | omega | (simp <;> omega))) | with_reducible apply Blk.allocp | with_reducible apply Blk.drew | with_reducible apply Blk.drewN))) hB1; have cA1 := hA1.cell; have fA1 := hA1.frozen; have lA1 := hA1.lt; have mA1 := Nat.ne_of_gt lA1; have nA1 := Nat.ne_of_lt lA1; have hR1 : Blk v1 (w.heap.size + 1) 25 #[.int .i64 0, .int .i64 0, .int .i64 0] := Blk.call (by (repeat (first | with_reducible assumption | (with_reducible apply Blk.new_at; (first | rfl | (simp; done))) | with_reducible apply Blk.store3 | with_reducible apply Blk.store4 | (with_reducible apply Blk.farp; (first | omega | (simp <;> omega))) | with_reducible apply Blk.allocp | with_reducible apply Blk.drew | with_reducible apply Blk.drewN))) hB1; have cR1 := hR1.cell; have fR1 := hR1.frozen; have lR1 := hR1.lt; have mR1 := Nat.ne_of_gt lR1; have nR1 := Nat.ne_of_lt lR1)
    exact bodyPost_ret (v := .tuple #[.agg #[.int .i64 e, .int .i64 a, .int .i64 b], .bool true]) (by simp [results, Tryz.results31, go_sem, *]) rfl ⟨rfl, (by repeat (first | with_reducible exact Below.refl _ _ | with_reducible assumption | with_reducible apply Below.drew | with_reducible apply below_drewN | (with_reducible apply below_setp; (first | omega | (simp <;> omega))) | (with_reducible apply below_allocp; (first | omega | (simp <;> omega))) | (with_reducible refine below_viap (by assumption) ?_ ?_; (first | omega | (simp <;> omega)))))⟩
set_option maxRecDepth 100000 in
set_option maxHeartbeats 3200000 in
theorem idGood_any (d e a b : Int) (w : World) : Calls Tryz.prog 25 #[.int .i64 d, .agg #[.int .i64 e, .int .i64 a, .int .i64 b]] w fun x w' => x = .returned (.bool (idB d e a b)) ∧ Below w.heap.size w w' := by
  unfold idB
  have hL0 := Lib.hid (fun w => l1In_any e 1 10000 w)
  have hL1 := Lib.hid (fun w => l1In_any a 1 10000 w)
  have hL2 := Lib.hid (fun w => l1In_any b 0 (2 * a - 1) w)
  cases hc : isDisc d with
  | false =>
    rw [Bool.false_and]
    go_enter Tryz.func25, Tryz.ntmps25
    go_wp2_with (go_at_call 56; (with_reducible refine (rDisc_eq d false _ hc).mono ?_); rintro e v ⟨rfl, rfl⟩)
    go_ret
    exact ⟨rfl, (by repeat (first | with_reducible exact Below.refl _ _ | with_reducible assumption | with_reducible apply Below.drew | with_reducible apply below_drewN | (with_reducible apply below_setp; (first | omega | (simp <;> omega))) | (with_reducible apply below_allocp; (first | omega | (simp <;> omega))) | (with_reducible refine below_viap (by assumption) ?_ ?_; (first | omega | (simp <;> omega)))))⟩
  | true =>
    rw [Bool.true_and]
    have hc0 := hc
    unfold isDisc at hc0
    simp only [Bool.and_eq_true, decide_eq_true_eq] at hc0
    obtain ⟨q1, q2, _⟩ := hc0
    by_cases h0 : 1 ≤ e
    rotate_left
    · have d0 : decide (1 ≤ e) = false := decide_eq_false h0
      rw [d0, Bool.false_and]
      rw [d0] at hL0
      rw [Bool.false_and] at hL0
      go_enter Tryz.func25, Tryz.ntmps25
      go_wp2_with (first | (go_at_call 56; (with_reducible refine (rDisc_eq d true _ hc).mono ?_); rintro e v ⟨rfl, rfl⟩) | (go_at_call 38; (with_reducible refine (hL0.out _).mono ?_); rintro e v ⟨rfl, rfl⟩) | (go_at_call 38; (with_reducible refine (hL1.out _).mono ?_); rintro e v ⟨rfl, rfl⟩) | (go_at_call 38; (with_reducible refine (hL2.out _).mono ?_); rintro e v ⟨rfl, rfl⟩))
      go_ret
      exact ⟨rfl, (by repeat (first | with_reducible exact Below.refl _ _ | with_reducible assumption | with_reducible apply Below.drew | with_reducible apply below_drewN | (with_reducible apply below_setp; (first | omega | (simp <;> omega))) | (with_reducible apply below_allocp; (first | omega | (simp <;> omega))) | (with_reducible refine below_viap (by assumption) ?_ ?_; (first | omega | (simp <;> omega)))))⟩
    have d0 : decide (1 ≤ e) = true := decide_eq_true h0
    rw [d0, Bool.true_and]
    rw [d0] at hL0
    rw [Bool.true_and] at hL0
    by_cases h1 : e ≤ 10000
    rotate_left
    · have d1 : decide (e ≤ 10000) = false := decide_eq_false h1
      rw [d1, Bool.false_and]
      rw [d1] at hL0
      go_enter Tryz.func25, Tryz.ntmps25
      go_wp2_with (first | (go_at_call 56; (with_reducible refine (rDisc_eq d true _ hc).mono ?_); rintro e v ⟨rfl, rfl⟩) | (go_at_call 38; (with_reducible refine (hL0.out _).mono ?_); rintro e v ⟨rfl, rfl⟩) | (go_at_call 38; (with_reducible refine (hL1.out _).mono ?_); rintro e v ⟨rfl, rfl⟩) | (go_at_call 38; (with_reducible refine (hL2.out _).mono ?_); rintro e v ⟨rfl, rfl⟩))
      go_ret
      exact ⟨rfl, (by repeat (first | with_reducible exact Below.refl _ _ | with_reducible assumption | with_reducible apply Below.drew | with_reducible apply below_drewN | (with_reducible apply below_setp; (first | omega | (simp <;> omega))) | (with_reducible apply below_allocp; (first | omega | (simp <;> omega))) | (with_reducible refine below_viap (by assumption) ?_ ?_; (first | omega | (simp <;> omega)))))⟩
    have d1 : decide (e ≤ 10000) = true := decide_eq_true h1
    rw [d1, Bool.true_and]
    rw [d1] at hL0
    by_cases h2 : 1 ≤ a
    rotate_left
    · have d2 : decide (1 ≤ a) = false := decide_eq_false h2
      rw [d2, Bool.false_and]
      rw [d2] at hL1
      rw [Bool.false_and] at hL1
      go_enter Tryz.func25, Tryz.ntmps25
      go_wp2_with (first | (go_at_call 56; (with_reducible refine (rDisc_eq d true _ hc).mono ?_); rintro e v ⟨rfl, rfl⟩) | (go_at_call 38; (with_reducible refine (hL0.out _).mono ?_); rintro e v ⟨rfl, rfl⟩) | (go_at_call 38; (with_reducible refine (hL1.out _).mono ?_); rintro e v ⟨rfl, rfl⟩) | (go_at_call 38; (with_reducible refine (hL2.out _).mono ?_); rintro e v ⟨rfl, rfl⟩))
      go_ret
      exact ⟨rfl, (by repeat (first | with_reducible exact Below.refl _ _ | with_reducible assumption | with_reducible apply Below.drew | with_reducible apply below_drewN | (with_reducible apply below_setp; (first | omega | (simp <;> omega))) | (with_reducible apply below_allocp; (first | omega | (simp <;> omega))) | (with_reducible refine below_viap (by assumption) ?_ ?_; (first | omega | (simp <;> omega)))))⟩
    have d2 : decide (1 ≤ a) = true := decide_eq_true h2
    rw [d2, Bool.true_and]
    rw [d2] at hL1
    rw [Bool.true_and] at hL1
    by_cases h3 : a ≤ 10000
    rotate_left
    · have d3 : decide (a ≤ 10000) = false := decide_eq_false h3
      rw [d3, Bool.false_and]
      rw [d3] at hL1
      go_enter Tryz.func25, Tryz.ntmps25
      go_wp2_with (first | (go_at_call 56; (with_reducible refine (rDisc_eq d true _ hc).mono ?_); rintro e v ⟨rfl, rfl⟩) | (go_at_call 38; (with_reducible refine (hL0.out _).mono ?_); rintro e v ⟨rfl, rfl⟩) | (go_at_call 38; (with_reducible refine (hL1.out _).mono ?_); rintro e v ⟨rfl, rfl⟩) | (go_at_call 38; (with_reducible refine (hL2.out _).mono ?_); rintro e v ⟨rfl, rfl⟩))
      go_ret
      exact ⟨rfl, (by repeat (first | with_reducible exact Below.refl _ _ | with_reducible assumption | with_reducible apply Below.drew | with_reducible apply below_drewN | (with_reducible apply below_setp; (first | omega | (simp <;> omega))) | (with_reducible apply below_allocp; (first | omega | (simp <;> omega))) | (with_reducible refine below_viap (by assumption) ?_ ?_; (first | omega | (simp <;> omega)))))⟩
    have d3 : decide (a ≤ 10000) = true := decide_eq_true h3
    rw [d3, Bool.true_and]
    rw [d3] at hL1
    by_cases h4 : 0 ≤ b
    rotate_left
    · have d4 : decide (0 ≤ b) = false := decide_eq_false h4
      rw [d4, Bool.false_and]
      rw [d4] at hL2
      rw [Bool.false_and] at hL2
      go_enter Tryz.func25, Tryz.ntmps25
      go_wp2_with (first | (go_at_call 56; (with_reducible refine (rDisc_eq d true _ hc).mono ?_); rintro e v ⟨rfl, rfl⟩) | (go_at_call 38; (with_reducible refine (hL0.out _).mono ?_); rintro e v ⟨rfl, rfl⟩) | (go_at_call 38; (with_reducible refine (hL1.out _).mono ?_); rintro e v ⟨rfl, rfl⟩) | (go_at_call 38; (with_reducible refine (hL2.out _).mono ?_); rintro e v ⟨rfl, rfl⟩))
      go_ret
      exact ⟨rfl, (by repeat (first | with_reducible exact Below.refl _ _ | with_reducible assumption | with_reducible apply Below.drew | with_reducible apply below_drewN | (with_reducible apply below_setp; (first | omega | (simp <;> omega))) | (with_reducible apply below_allocp; (first | omega | (simp <;> omega))) | (with_reducible refine below_viap (by assumption) ?_ ?_; (first | omega | (simp <;> omega)))))⟩
    have d4 : decide (0 ≤ b) = true := decide_eq_true h4
    rw [d4, Bool.true_and]
    rw [d4] at hL2
    rw [Bool.true_and] at hL2
    by_cases h5 : b < 2 * a
    rotate_left
    · have d5 : decide (b < 2 * a) = false := decide_eq_false h5
      rw [d5, Bool.false_and]
      have d5b : decide (b ≤ 2 * a - 1) = false := decide_eq_false (by omega)
      rw [d5b] at hL2
      go_enter Tryz.func25, Tryz.ntmps25
      go_wp2_with (first | (go_at_call 56; (with_reducible refine (rDisc_eq d true _ hc).mono ?_); rintro e v ⟨rfl, rfl⟩) | (go_at_call 38; (with_reducible refine (hL0.out _).mono ?_); rintro e v ⟨rfl, rfl⟩) | (go_at_call 38; (with_reducible refine (hL1.out _).mono ?_); rintro e v ⟨rfl, rfl⟩) | (go_at_call 38; (with_reducible refine (hL2.out _).mono ?_); rintro e v ⟨rfl, rfl⟩))
      go_ret
      exact ⟨rfl, (by repeat (first | with_reducible exact Below.refl _ _ | with_reducible assumption | with_reducible apply Below.drew | with_reducible apply below_drewN | (with_reducible apply below_setp; (first | omega | (simp <;> omega))) | (with_reducible apply below_allocp; (first | omega | (simp <;> omega))) | (with_reducible refine below_viap (by assumption) ?_ ?_; (first | omega | (simp <;> omega)))))⟩
    have d5 : decide (b < 2 * a) = true := decide_eq_true h5
    rw [d5, Bool.true_and]
    have d5b : decide (b ≤ 2 * a - 1) = true := decide_eq_true (by omega)
    rw [d5b] at hL2
    have bb := mul_bd (a := b) (x := b) (A := 20000) (X := 20000) (by omega) (by omega) (by omega) (by omega)
    have bb0 : 0 ≤ b * b := Int.mul_nonneg h4 h4
    have hr1 : (b * b - d) % (4 * a) = idR d a b := rfl
    have hr2 : (b * b - d).tmod (4 * a) = idR d a b := by unfold idR; exact Int.tmod_eq_emod_of_nonneg (by omega)
    have hw1 : wrap64 (b * b) = b * b := IntWalk.wrap64_in _ (by omega)
    have hw2 : IntKind.i64.wrap (b * b) = b * b := IntWalk.i64_in _ (by omega)
    have hz : ¬ 4 * a = 0 := by omega
    have hz2 : (4 * a == 0) = false := beq_eq_false_iff_ne.2 hz
    have hw3 : wrap64 (b * b - d) = b * b - d := IntWalk.wrap64_in _ (by omega)
    generalize idR d a b = r at *
    go_enter Tryz.func25, Tryz.ntmps25
    go_wp2_with (first | (go_at_call 56; (with_reducible refine (rDisc_eq d true _ hc).mono ?_); rintro e v ⟨rfl, rfl⟩) | (go_at_call 38; (with_reducible refine (hL0.out _).mono ?_); rintro e v ⟨rfl, rfl⟩) | (go_at_call 38; (with_reducible refine (hL1.out _).mono ?_); rintro e v ⟨rfl, rfl⟩) | (go_at_call 38; (with_reducible refine (hL2.out _).mono ?_); rintro e v ⟨rfl, rfl⟩))
    go_ret
    exact ⟨by first | rfl | (rw [show decide (r = 0) = (r == 0) from (Bool.eq_iff_iff.2 (by simp))]; rfl), (by repeat (first | with_reducible exact Below.refl _ _ | with_reducible assumption | with_reducible apply Below.drew | with_reducible apply below_drewN | (with_reducible apply below_setp; (first | omega | (simp <;> omega))) | (with_reducible apply below_allocp; (first | omega | (simp <;> omega))) | (with_reducible refine below_viap (by assumption) ?_ ?_; (first | omega | (simp <;> omega)))))⟩
end

section
open Go.RowKit

theorem hm_red {a x y : Int} (_ : 0 < a) : SpEq [(a, 0), (x % a, y)] [(a, 0), (x, y)] := by
  have h := SpEq.red (-(x / a)) a x y
  have e : x + -(x / a) * a = x % a := by
    have := Int.mul_ediv_add_emod x a
    rw [Int.neg_mul, Int.mul_comm]; omega
  rw [e] at h
  exact h
theorem hm_step {a b d x y q : Int} (ha : 0 < a) : SpEq [(a, 0), (x, y), ((b - q * x) % a, d - q * y)] [(a, 0), (b, d), (x, y)] := by
  have h1 : SpEq [(a, 0), ((b - q * x) % a, d - q * y)] [(a, 0), (b - q * x, d - q * y)] := hm_red ha
  have h2 : SpEq ([(a, 0), ((b - q * x) % a, d - q * y)] ++ [(x, y)]) ([(a, 0), (b - q * x, d - q * y)] ++ [(x, y)]) := h1.app (SpEq.refl _)
  have h3 : SpEq ([(a, 0)] ++ [(x, y), (b - q * x, d - q * y)]) ([(a, 0)] ++ [(b, d), (x, y)]) := (SpEq.refl _).app (SpEq.step q b d x y)
  have p : ∀ z : Int × Int, SpEq [(a, 0), (x, y), z] ([(a, 0), z] ++ [(x, y)]) := fun z => SpEq.perm fun t => by
    simp only [List.cons_append, List.nil_append, List.mem_cons, List.not_mem_nil, or_false]
    exact ⟨fun h => by rcases h with h | h | h <;> simp [h], fun h => by rcases h with h | h | h <;> simp [h]⟩
  exact (p _).trans (h2.trans ((p _).symm.trans h3))
theorem hm_gcd {a b d x : Int} (ha : 0 < a) : SpEq [((Int.gcd a x : Int), 0), (b % (Int.gcd a x : Int), d)] [(a, 0), (b, d), (x, 0)] := by
  have hg : 0 < (Int.gcd a x : Int) := by
    have := Int.gcd_pos_of_ne_zero_left x (show a ≠ 0 by omega)
    omega
  have h1 : SpEq ([((Int.gcd a x : Int), 0)] ++ [(b, d)]) ([(a, 0), (x, 0)] ++ [(b, d)]) := (SpEq.gcd a x).app (SpEq.refl _)
  refine (hm_red hg).trans (h1.trans (SpEq.perm fun t => ?_))
  simp only [List.cons_append, List.nil_append, List.mem_cons, List.not_mem_nil, or_false]
  exact ⟨fun h => by rcases h with h | h | h <;> simp [h], fun h => by rcases h with h | h | h <;> simp [h]⟩
theorem emod_of {a b u : Int} (h0 : 0 ≤ b) (h1 : b < a) (hd : a ∣ u - b) : b = u % a := by
  obtain ⟨t, ht⟩ := hd
  have e : u = b + a * t := by omega
  rw [e, Int.add_mul_emod_self_left, Int.emod_eq_of_lt h0 h1]
theorem hm_end {L : List (Int × Int)} {a b dd N u e : Int} (h : SpEq [(a, 0), (b, dd)] L) (hn : SpEq [(N, 0), (u, e)] L) (ha : 0 < a) (hb : 0 ≤ b ∧ b < a) (hN : 0 < N) (he : 0 < e) :
    dd ≠ 0 ∧ (0 < dd → N = a ∧ e = dd ∧ b = u % N) ∧ (dd < 0 → N = a ∧ e = -dd ∧ (-b) % a = u % N) := by
  have hs := hn.trans h.symm
  refine ⟨fun h0 => ?_, fun hp => ?_, fun hp => ?_⟩
  · obtain ⟨k, l, _, p2⟩ := Sp.two_iff.1 ((hs (u, e)).1 (Sp.mem (by simp)))
    rw [h0] at p2; simp at p2; omega
  · obtain ⟨e1, e2, e3⟩ := hnf_uniq ha hp (by omega) (by omega) hs
    refine ⟨e2, e1, ?_⟩
    rw [e2]; exact emod_of hb.1 hb.2 e3
  · have hs2 : SpEq [(N, 0), (u, e)] [(a, 0), ((-b) % a, -dd)] := hs.trans ((SpEq.neg a b dd).symm.trans (hm_red ha).symm)
    obtain ⟨e1, e2, e3⟩ := hnf_uniq ha (show 0 < -dd by omega) (by omega) (by omega) hs2
    refine ⟨e2, e1, ?_⟩
    rw [e2]
    exact emod_of (Int.emod_nonneg _ (by omega)) (Int.emod_lt_of_pos _ ha) e3
theorem tdiv_facts {d y : Int} (hy : y ≠ 0) (hd : -20000 ≤ d ∧ d ≤ 20000) : (-20000 ≤ d.tdiv y ∧ d.tdiv y ≤ 20000) ∧ (d - d.tdiv y * y).natAbs < y.natAbs := by
  have h1 := Int.natAbs_tdiv_le_natAbs d y
  have h2 := Int.mul_tdiv_add_tmod d y
  have h3 : (d.tmod y).natAbs < y.natAbs := by
    rw [Int.natAbs_tmod]
    exact Nat.mod_lt _ (by omega)
  have h4 : d - d.tdiv y * y = d.tmod y := by rw [Int.mul_comm]; omega
  rw [h4]
  exact ⟨by omega, h3⟩
/-- The state of the outer loop. -/
def HmSt (L : List (Int × Int)) (w : World) (v6 v7 v8 v16 : Value) (wr : World) : Prop :=
  ∃ (k : Nat) (a b d : Int), v16 = .int .i64 k ∧ v6 = .int .i64 a ∧ v7 = .int .i64 b ∧ v8 = .int .i64 d ∧ k ≤ L.length ∧ (-20000 ≤ d ∧ d ≤ 20000) ∧ (0 ≤ a ∧ a ≤ 400000000) ∧ (0 ≤ b ∧ b ≤ 400000000) ∧
    Hid ((k = 0 → a = 0 ∧ b = 0 ∧ d = 0) ∧ (1 ≤ k → 0 < a ∧ b < a ∧ SpEq [(a, 0), (b, d)] (L.take k))) ∧ Below w.heap.size w wr
/-- The state of the inner loop. -/
def HmIn (a : Int) (S : List (Int × Int)) (v7 v8 v11 v12 : Value) : Prop :=
  ∃ b d x y : Int, v7 = .int .i64 b ∧ v8 = .int .i64 d ∧ v11 = .int .i64 x ∧ v12 = .int .i64 y ∧ (-400000000 ≤ b ∧ b ≤ 400000000) ∧ (-20000 ≤ d ∧ d ≤ 20000) ∧ (-400000000 ≤ x ∧ x ≤ 400000000) ∧ (-20000 ≤ y ∧ y ≤ 20000) ∧ Hid (SpEq [(a, 0), (b, d), (x, y)] S)
set_option maxRecDepth 100000 in
set_option maxHeartbeats 12800000 in
theorem hermite_any (x0 : Int) (L' : List (Int × Int)) (N u e : Int) (v : Value) (B : Nat) (w : World) (hx0 : 0 < x0 ∧ x0 ≤ 400000000)
    (hb : ∀ p ∈ L', (-400000000 ≤ p.1 ∧ p.1 ≤ 400000000) ∧ (-20000 ≤ p.2 ∧ p.2 ≤ 20000)) (hlen : L'.length ≤ 100) (hsp : SpEq [(N, 0), (u, e)] ((x0, 0) :: L')) (hN : 0 < N) (he : 0 < e)
    (ho : w.ownsRow B 73 2 v ((x0, 0) :: L').length (cellsP ((x0, 0) :: L'))) :
    Calls Tryz.prog 96 #[v] w fun e1 w' => e1 = .returned (.tuple #[.int .i64 N, .int .i64 (u % N), .int .i64 e, .bool true]) ∧ Below w.heap.size w w' := by
  obtain ⟨bl, cl, rfl⟩ := own_shape ho
  have HO := Lib.hid ho
  have HB : Hid (∀ k (h : k < ((x0, 0) :: L').length), 1 ≤ k → (-400000000 ≤ (((x0, 0) :: L')[k]).1 ∧ (((x0, 0) :: L')[k]).1 ≤ 400000000) ∧ (-20000 ≤ (((x0, 0) :: L')[k]).2 ∧ (((x0, 0) :: L')[k]).2 ≤ 20000)) := Lib.hid (fun k h h1 => by
    obtain ⟨j, rfl⟩ : ∃ j, k = j + 1 := ⟨k - 1, by omega⟩
    exact hb _ (by rw [List.getElem_cons_succ]; exact List.getElem_mem _))
  have H0 : Hid (∀ h : 0 < ((x0, 0) :: L').length, ((x0, 0) :: L')[0] = (x0, 0)) := Lib.hid (fun _ => rfl)
  have hlen2 : ((x0, 0) :: L').length ≤ 101 := by simp; omega
  have hlen1 : 1 ≤ ((x0, 0) :: L').length := by simp
  have HT1 : Hid (((x0, 0) :: L').take 1 = [(x0, 0)]) := Lib.hid rfl
  have HS := Lib.hid hsp
  clear hb hlen hsp ho
  generalize ((x0, 0) :: L') = L at *
  have hm := Lib.hid mod_any
  have hg := Lib.hid gcd_any
  go_enter Tryz.func96, Tryz.ntmps96
  go_wp2
  go_loopw [6, 7, 8, 16] (fun v6 v7 v8 v16 wr => HmSt L w v6 v7 v8 v16 wr) (fun _ _ _ v16 _ => L.length - (intOf v16).toNat)
  case atStart => exact ⟨0, 0, 0, 0, rfl, rfl, rfl, rfl, Nat.zero_le _, by omega, by omega, by omega, Lib.hid ⟨fun _ => ⟨rfl, rfl, rfl⟩, fun h => by omega⟩, Below.refl _ _⟩
  case round =>
    obtain ⟨k, a, b, d, rfl, rfl, rfl, rfl, hk, hd, ha, hb, hst, hbel⟩ := hrel
    have hz := hbel.size
    by_cases hlt : k < L.length
    · obtain ⟨g, rfl, lg, d1, d2⟩ := own_elemP (own_call hbel HO.out) hlt
      have ng : ¬ g = wr.heap.size := by omega
      have kI : (k : Int) < (L.length : Int) := by omega
      by_cases hk0 : k = 0
      · subst hk0
        obtain ⟨rfl, rfl, rfl⟩ := hst.out.1 rfl
        rw [H0.out hlt] at d1 d2
        simp only at d1 d2
        have hG : Hid (∀ w, Calls Tryz.prog 117 #[.int .i64 0, .int .i64 x0] w fun e w' => e = .returned (.int .i64 x0) ∧ ∃ n, w' = w.drewN n) := Lib.hid (fun w => by
          have h := hg.out 0 x0 w (by omega) (by omega) (by omega) (by omega)
          rw [Int.gcd_zero_left, show ((x0.natAbs : Nat) : Int) = x0 by omega] at h
          exact h)
        have hM : Hid (∀ w, Calls Tryz.prog 76 #[.int .i64 0, .int .i64 x0] w fun e w' => e = .returned (.int .i64 0) ∧ w = w') := Lib.hid (fun w => by
          have h := hm.out 0 x0 w (by omega) (by omega)
          rw [Int.zero_emod] at h
          exact h)
        have hx : (x0 != 0) = true := by rw [bne_iff_ne]; omega
        have x1 := hx0.1; have x2 := hx0.2
        clear hst hd ha hb
        go_wp2
        go_region
        go_wp2
        refine wp_loop_rounds 1 ?_
        rw [rounds_succ]
        go_wp2_with (first | (go_at_call 117; refine (hG.out _).mono ?_; rintro e v ⟨rfl, nq, rfl⟩) | (go_at_call 76; (with_reducible refine (hM.out _).mono ?_); rintro e v ⟨rfl, rfl⟩))
        go_roundw
        case rel => exact ⟨1, x0, 0, 0, by go_num, rfl, rfl, rfl, hlt, by omega, by omega, by omega, Lib.hid ⟨fun h => by omega, fun _ => ⟨x1, x1, by
          rw [HT1.out]
          refine SpEq.of (fun z hz => ?_) (fun z hz => Sp.mem (by simp only [List.mem_singleton] at hz; simp [hz]))
          rcases List.mem_cons.1 hz with rfl | hz
          · exact Sp.mem (by simp)
          · obtain rfl := List.mem_singleton.1 hz; exact Sp.zero _⟩⟩, (by repeat (first | with_reducible exact Below.refl _ _ | with_reducible assumption | with_reducible apply Below.drew | with_reducible apply below_drewN | (with_reducible apply below_setp; (first | omega | (simp <;> omega))) | (with_reducible apply below_allocp; (first | omega | (simp <;> omega))) | (with_reducible refine below_viap (by assumption) ?_ ?_; (first | omega | (simp <;> omega)))))⟩
        case measure => simp [intOf] <;> omega
      · obtain ⟨a0, ba, hsp⟩ := hst.out.2 (by omega)
        obtain ⟨⟨x1, x2⟩, y1, y2⟩ := HB.out k hlt (by omega)
        have HTk : Hid (L.take (k + 1) = L.take k ++ [L[k]]) := Lib.hid (List.take_succ_eq_append_getElem hlt)
        have HSp := Lib.hid hsp
        obtain ⟨⟨x, y⟩, hv⟩ : ∃ z, L[k] = z := ⟨_, rfl⟩
        rw [hv] at d1 d2 x1 x2 y1 y2 HTk
        simp only at d1 d2 x1 x2 y1 y2
        have hM := Lib.hid (fun z w => hm.out z a w a0 (by omega))
        have na : (a != 0) = true := by rw [bne_iff_ne]; omega
        clear hst hsp hv
        go_wp2
        go_region
        go_wp2
        go_loop [7, 8, 11, 12] (fun v7 v8 v11 v12 => HmIn a ([(a, 0), (b, d)] ++ [(x, y)]) v7 v8 v11 v12) (fun _ _ _ v12 => (intOf v12).natAbs)
        case atStart => exact ⟨b, d, x, y, rfl, rfl, rfl, rfl, by omega, hd, by omega, by omega, Lib.hid (SpEq.refl _)⟩
        case round =>
          obtain ⟨b', d', x', y', rfl, rfl, rfl, rfl, hb', hd', hx', hy', hS'⟩ := hrel
          by_cases hy0 : y' = 0
          · subst hy0
            have hgp : 0 < (Int.gcd a x' : Int) := by
              have := Int.gcd_pos_of_ne_zero_left x' (show a ≠ 0 by omega)
              omega
            have hgl : (Int.gcd a x' : Int) ≤ a := Int.le_of_dvd a0 (Int.gcd_dvd_left ..)
            have HSn : Hid (SpEq [((Int.gcd a x' : Int), 0), (b' % (Int.gcd a x' : Int), d')] (L.take (k + 1))) := Lib.hid (by
              rw [HTk.out]
              exact (hm_gcd a0).trans (hS'.out.trans (HSp.out.app (SpEq.refl _))))
            have hG := Lib.hid (fun w => hg.out a x' w (by omega) (by omega) (by omega) (by omega))
            have hM2 := Lib.hid (fun w => hm.out b' (Int.gcd a x' : Int) w hgp (by omega))
            have r1 := Int.emod_nonneg b' (show (Int.gcd a x' : Int) ≠ 0 by omega)
            have r2 := Int.emod_lt_of_pos b' hgp
            generalize (Int.gcd a x' : Int) = t at *
            generalize b' % t = r at *
            have nt : (t != 0) = true := by rw [bne_iff_ne]; omega
            clear hS' HSp HTk hM
            go_wp2_with (first | (go_at_call 117; refine (hG.out _).mono ?_; rintro e v ⟨rfl, nq, rfl⟩) | (go_at_call 76; (with_reducible refine (hM2.out _).mono ?_); rintro e v ⟨rfl, rfl⟩))
            go_roundw
            case rel => exact ⟨k + 1, t, r, d', by go_num, rfl, rfl, rfl, hlt, hd', by omega, by omega, Lib.hid ⟨fun h => by omega, fun _ => ⟨hgp, r2, HSn.out⟩⟩, (by repeat (first | with_reducible exact Below.refl _ _ | with_reducible assumption | with_reducible apply Below.drew | with_reducible apply below_drewN | (with_reducible apply below_setp; (first | omega | (simp <;> omega))) | (with_reducible apply below_allocp; (first | omega | (simp <;> omega))) | (with_reducible refine below_viap (by assumption) ?_ ?_; (first | omega | (simp <;> omega)))))⟩
            case measure => simp [intOf] <;> omega
          · obtain ⟨⟨q1, q2⟩, q3⟩ := tdiv_facts hy0 hd'
            have n1 : (y' != 0) = true := by rw [bne_iff_ne]; exact hy0
            have n2 : (y' == 0) = false := beq_eq_false_iff_ne.2 hy0
            have HSn : Hid (SpEq [(a, 0), (x', y'), ((b' - d'.tdiv y' * x') % a, d' - d'.tdiv y' * y')] ([(a, 0), (b, d)] ++ [(x, y)])) := Lib.hid ((hm_step a0).trans hS'.out)
            obtain ⟨q, hq⟩ : ∃ q, d'.tdiv y' = q := ⟨_, rfl⟩
            rw [hq] at q1 q2 q3 HSn
            have m1 := mul_bd (a := q) (x := x') (A := 20000) (X := 400000000) (by omega) (by omega) (by omega) (by omega)
            have m2 := mul_bd (a := q) (x := y') (A := 20000) (X := 20000) (by omega) (by omega) (by omega) (by omega)
            have w0 : wrap64 q = q := IntWalk.wrap64_in _ (by omega)
            have w1 : wrap64 (q * x') = q * x' := IntWalk.wrap64_in _ (by omega)
            have w2 : wrap64 (b' - q * x') = b' - q * x' := IntWalk.wrap64_in _ (by omega)
            have w3 : wrap64 (q * y') = q * y' := IntWalk.wrap64_in _ (by omega)
            have w4 : wrap64 (d' - q * y') = d' - q * y' := IntWalk.wrap64_in _ (by omega)
            have r1 := Int.emod_nonneg (b' - q * x') (show a ≠ 0 by omega)
            have r2 := Int.emod_lt_of_pos (b' - q * x') a0
            have hMz := Lib.hid (fun w => hM.out (b' - q * x') w)
            have Q3 := Lib.hid q3
            have D5 : -20000 ≤ d' - q * y' ∧ d' - q * y' ≤ 20000 := by omega
            clear hS' q3
            go_wp2_with (go_at_call 76; (with_reducible refine (hMz.out _).mono ?_); rintro e v ⟨rfl, rfl⟩)
            go_round
            case rel => exact ⟨x', y', (b' - q * x') % a, d' - q * y', rfl, rfl, rfl, rfl, hx', hy', by omega, D5, HSn⟩
            case measure => simp [intOf]; exact Q3.out
    · have ek : k = L.length := by omega
      obtain ⟨a0, ba, hsp⟩ := hst.out.2 (by omega)
      rw [ek, List.take_length] at hsp
      obtain ⟨z1, z2, z3⟩ := hm_end hsp HS.out a0 ⟨hb.1, ba⟩ hN he
      have na : (a == 0) = false := beq_eq_false_iff_ne.2 (by omega)
      have nd : (d == 0) = false := beq_eq_false_iff_ne.2 z1
      have kI : ¬ (k : Int) < (L.length : Int) := by omega
      have hM : Hid (∀ w, Calls Tryz.prog 76 #[.int .i64 (-b), .int .i64 a] w fun e w' => e = .returned (.int .i64 ((-b) % a)) ∧ w = w') := Lib.hid (fun w => hm.out (-b) a w a0 (by omega))
      clear hst hsp HS ek
      by_cases hneg : d < 0
      · obtain ⟨e1, e2, e3⟩ := z3 hneg
        rw [e3] at hM
        have HE : Hid (N = a ∧ e = -d) := Lib.hid ⟨e1, e2⟩
        clear z1 z2 z3 e1 e2 e3
        go_wp2_with (go_at_call 76; (with_reducible refine (hM.out _).mono ?_); rintro e v ⟨rfl, rfl⟩)
        obtain ⟨e1, e2⟩ := HE.out
        subst e1; subst e2
        exact bodyPost_ret (v := .tuple #[.int .i64 N, .int .i64 (u % N), .int .i64 (-d), .bool true]) (by simp [results, Tryz.results96, go_sem, *]) rfl ⟨rfl, (by repeat (first | with_reducible exact Below.refl _ _ | with_reducible assumption | with_reducible apply Below.drew | with_reducible apply below_drewN | (with_reducible apply below_setp; (first | omega | (simp <;> omega))) | (with_reducible apply below_allocp; (first | omega | (simp <;> omega))) | (with_reducible refine below_viap (by assumption) ?_ ?_; (first | omega | (simp <;> omega)))))⟩
      · obtain ⟨e1, e2, e3⟩ := z2 (by omega)
        have HE : Hid (N = a ∧ e = d ∧ b = u % N) := Lib.hid ⟨e1, e2, e3⟩
        clear z1 z2 z3 e1 e2 e3
        go_wp2
        obtain ⟨e1, e2, e3⟩ := HE.out
        rw [← e3]
        subst e1; subst e2
        exact bodyPost_ret (v := .tuple #[.int .i64 N, .int .i64 b, .int .i64 e, .bool true]) (by simp [results, Tryz.results96, go_sem, *]) rfl ⟨rfl, (by repeat (first | with_reducible exact Below.refl _ _ | with_reducible assumption | with_reducible apply Below.drew | with_reducible apply below_drewN | (with_reducible apply below_setp; (first | omega | (simp <;> omega))) | (with_reducible apply below_allocp; (first | omega | (simp <;> omega))) | (with_reducible refine below_viap (by assumption) ?_ ?_; (first | omega | (simp <;> omega)))))⟩
end

section
open Go.RowKit

theorem own_blk8 {w : World} {g : Nat} {t : TypeId} {a b c d e f x y : Value} (h : Blk w g t #[a, b, c, d, e, f, x, y]) : w.ownsRow g t 2 (.slice (some ⟨g, 0, none⟩) 4 4) 4 [a, b, c, d, e, f, x, y] :=
  ⟨rfl, .inr ⟨g, 4, #[a, b, c, d, e, f, x, y], rfl, Nat.le_refl _, h, Nat.le_refl _, by decide, rfl, rfl⟩⟩
theorem kap_facts {e A t : Int} (he : 0 < e) : (e * t) % (2 * e * A) = e * (t % (2 * A)) ∧ (e * (t % (2 * A))).tdiv e = t % (2 * A) ∧ (-(t % (2 * A))) % (2 * A) = (-t) % (2 * A) ∧ (2 * e * A).tdiv e = 2 * A := by
  refine ⟨?_, ?_, ?_, ?_⟩
  · rw [show 2 * e * A = e * (2 * A) by grind, Int.mul_emod_mul_of_pos _ _ he]
  · exact Int.mul_tdiv_cancel_left _ (by omega)
  · rw [Int.emod_eq_emod_iff_emod_sub_eq_zero]
    apply Int.emod_eq_zero_of_dvd
    have := Int.mul_ediv_add_emod t (2 * A)
    exact ⟨t / (2 * A), by omega⟩
  · rw [show 2 * e * A = e * (2 * A) by grind]
    exact Int.mul_tdiv_cancel_left _ (by omega)
set_option maxRecDepth 100000 in
set_option maxHeartbeats 6400000 in
theorem idealOf_any (x0 : Int) (L' : List (Int × Int)) (A e t : Int) (v : Value) (B : Nat) (w : World) (hx0 : 0 < x0 ∧ x0 ≤ 400000000)
    (hb : ∀ p ∈ L', (-400000000 ≤ p.1 ∧ p.1 ≤ 400000000) ∧ (-20000 ≤ p.2 ∧ p.2 ≤ 20000)) (hlen : L'.length ≤ 100) (hsp : SpEq [(2 * e * A, 0), (e * t, e)] ((x0, 0) :: L')) (hA : 0 < A) (he : 0 < e)
    (ho : w.ownsRow B 73 2 v ((x0, 0) :: L').length (cellsP ((x0, 0) :: L'))) :
    Calls Tryz.prog 69 #[v] w fun e1 w' => e1 = .returned (.agg #[.int .i64 e, .int .i64 A, .int .i64 ((-t) % (2 * A))]) ∧ Below w.heap.size w w' := by
  have heA : 0 < e * A := Int.mul_pos he hA
  have hNx : 2 * e * A ≤ x0 := by
    obtain ⟨k, l, p1, p2⟩ := Sp.two_iff.1 ((hsp (x0, 0)).2 (Sp.mem (by simp)))
    rw [Int.mul_zero, Int.zero_add] at p2
    have hl : l = 0 := by
      rcases Int.mul_eq_zero.1 p2.symm with h | h <;> omega
    rw [hl] at p1
    refine Int.le_of_dvd hx0.1 ⟨k, ?_⟩
    rw [p1]; grind
  have hAe : A ≤ e * A := by have := Int.mul_le_mul_of_nonneg_right (show 1 ≤ e by omega) (show 0 ≤ A by omega); omega
  have hee : e ≤ e * A := by have := Int.mul_le_mul_of_nonneg_left (show 1 ≤ A by omega) (show 0 ≤ e by omega); omega
  rw [Int.mul_assoc] at hNx
  obtain ⟨k1, k2, k3, k4⟩ := kap_facts (A := A) (t := t) he
  have hH := Lib.hid (fun w ho => hermite_any x0 L' (2 * e * A) (e * t) e v B w hx0 hb hlen hsp (by rw [Int.mul_assoc]; omega) he ho)
  rw [k1] at hH
  have HO := Lib.hid ho
  have r1 := Int.emod_nonneg t (show 2 * A ≠ 0 by omega)
  have r2 := Int.emod_lt_of_pos t (show 0 < 2 * A by omega)
  have hM : Hid (∀ w, Calls Tryz.prog 76 #[.int .i64 (-(t % (2 * A))), .int .i64 (2 * A)] w fun e w' => e = .returned (.int .i64 ((-t) % (2 * A))) ∧ w = w') := Lib.hid (fun w => by
    have h := mod_any (-(t % (2 * A))) (2 * A) w (by omega) (by omega)
    rw [k3] at h
    exact h)
  have hb0 : e * (t % (2 * A)) ≤ 2 * (e * A) := by have := Int.mul_le_mul_of_nonneg_left (show t % (2 * A) ≤ 2 * A by omega) (show 0 ≤ e by omega); rw [show e * (2 * A) = 2 * (e * A) by grind] at this; exact this
  have hb1 : 0 ≤ e * (t % (2 * A)) := Int.mul_nonneg (by omega) r1
  have hN0 : 0 < 2 * e * A := by rw [Int.mul_assoc]; omega
  have hN1 : 2 * e * A ≤ 400000000 := by rw [Int.mul_assoc]; omega
  generalize (-t) % (2 * A) = R at *
  generalize t % (2 * A) = κ at *
  generalize e * κ = b at *
  generalize 2 * e * A = N at *
  have hx1 := hx0.2
  have e0 : (e == 0) = false := beq_eq_false_iff_ne.2 (by omega)
  have e1 : ¬ e = 0 := by omega
  have w1 : wrap64 (2 * A) = 2 * A := IntWalk.wrap64_in _ (by omega)
  have i1 : IntKind.i64.wrap (-b) = -b := IntWalk.i64_in _ (by omega)
  have i2 : IntKind.i64.wrap (-κ) = -κ := IntWalk.i64_in _ (by omega)
  have i3 : IntKind.i64.wrap (2 * A) = 2 * A := IntWalk.i64_in _ (by omega)
  have w0 : wrap64 A = A := IntWalk.wrap64_in _ (by omega)
  have a2 : (2 * A).tdiv 2 = A := by rw [Int.tdiv_eq_ediv_of_nonneg (by omega)]; omega
  have a3 : (2 * A) / 2 = A := by omega
  clear hsp hb hlen ho k1 k3 hNx hAe hee heA hx0
  go_enter Tryz.func69, Tryz.ntmps69
  go_wp2_with fail
  refine (hH.out _ (own_alloc HO.out)).mono ?_
  rintro e2 v1 ⟨rfl, hB1⟩
  have hZ1 := hB1.size
  (try simp at hZ1)
  have hR1 : Blk v1 w.heap.size 25 #[.int .i64 0, .int .i64 0, .int .i64 0] := Blk.call (by (repeat (first | with_reducible assumption | (with_reducible apply Blk.new_at; (first | rfl | (simp; done))) | with_reducible apply Blk.store3 | with_reducible apply Blk.store4 | (with_reducible apply Blk.farp; (first | omega | (simp <;> omega))) | with_reducible apply Blk.allocp | with_reducible apply Blk.drew | with_reducible apply Blk.drewN))) hB1
  have cR1 := hR1.cell; have fR1 := hR1.frozen; have lR1 := hR1.lt; have mR1 := Nat.ne_of_gt lR1; have nR1 := Nat.ne_of_lt lR1
  go_wp2
  refine wp_region_calm 8 (Below (v1.heap.size + 1) _) (by kernel_rfl) (by kernel_rfl) ((Below.refl _ _).drew) ?_
  simp only [List.take_succ_cons, List.take_zero, List.drop_succ_cons, List.drop_zero]
  repeat (first | (apply wpCalm_go; go_simp; (intro w' hw' hcc hff; go_simp; first | exact rfl | ((with_reducible refine (hM.out _).mono ?_); rintro e w1 ⟨rfl, hb⟩; exact ⟨rfl, calm_call_same hw' hb⟩)); (intro K hK; go_simp; refine hK _ ?_; clear hK K)) | (apply wpCalm_skip; go_simp; (try (focus (simp [undef]; done))); (intro K hK; go_simp; refine hK _ ?_; clear hK K)))
  refine wpCalm_nil ?_
  intro w1 hw1
  have hcc := (calm_cells hw1).1
  have hff := (calm_cells hw1).2
  have hss := calm_size hw1
  have hsz := hw1.size
  (try simp at hsz)
  have hX2 : Blk w1 v1.heap.size 25 #[.int .i64 e, .int .i64 A, .int .i64 0] := (Blk.new v1 _ _).below hw1 (by omega)
  have hR2 : Blk w1 w.heap.size 25 #[.int .i64 0, .int .i64 0, .int .i64 0] := (hR1.alloc _).below hw1 (by omega)
  have cX2 := hX2.cell; have fX2 := hX2.frozen; have lX2 := hX2.lt
  have cR2 := hR2.cell; have fR2 := hR2.frozen; have lR2 := hR2.lt
  have hz1 := hw1.size
  clear hcc hff hss cR1 fR1
  go_wp2
  exact bodyPost_ret (v := .agg #[.int .i64 e, .int .i64 A, .int .i64 R]) (by simp [results, Tryz.results69, go_sem, *]) rfl ⟨rfl, (by repeat (first | with_reducible exact Below.refl _ _ | with_reducible assumption | with_reducible apply Below.drew | with_reducible apply below_drewN | (with_reducible apply below_setp; (first | omega | (simp <;> omega))) | (with_reducible apply below_allocp; (first | omega | (simp <;> omega))) | (with_reducible refine below_viap (by assumption) ?_ ?_; (first | omega | (simp <;> omega)))))⟩
end

section
open Go.RowKit

/-- The list of the four products of generators. -/
def iL (a b a' b' X Y : Int) : List (Int × Int) := [(2 * a * a', 0), (-a * b', a), (-a' * b, a'), (X, Y)]
set_option maxRecDepth 100000 in
set_option maxHeartbeats 6400000 in
theorem idealTimes_any (d e1 a b e2 a' b' X Y A e t : Int) (w : World) (hd : -400000000 ≤ d ∧ d ≤ 400000000) (h1 : 1 ≤ e1 ∧ e1 ≤ 10000) (h2 : 1 ≤ e2 ∧ e2 ≤ 10000) (ha : 1 ≤ a ∧ a ≤ 10000) (ha' : 1 ≤ a' ∧ a' ≤ 10000)
    (hb : 0 ≤ b ∧ b ≤ 20000) (hb' : 0 ≤ b' ∧ b' ≤ 20000) (hX : b * b' + d = 2 * X) (hY : b + b' = -(2 * Y)) (hsp : SpEq [(2 * e * A, 0), (e * t, e)] (iL a b a' b' X Y)) (hA : 0 < A) (he : 0 < e) (he2 : e ≤ 10000) :
    Calls Tryz.prog 32 #[.int .i64 d, .agg #[.int .i64 e1, .int .i64 a, .int .i64 b], .agg #[.int .i64 e2, .int .i64 a', .int .i64 b']] w fun x w' =>
      x = .returned (.agg #[.int .i64 (e * (e1 * e2)), .int .i64 A, .int .i64 ((-t) % (2 * A))]) ∧ Below w.heap.size w w' := by
  have m1 := mul_bd (a := a) (x := a') (A := 10000) (X := 10000) (by omega) (by omega) (by omega) (by omega)
  have m2 := mul_bd (a := a) (x := b') (A := 10000) (X := 20000) (by omega) (by omega) (by omega) (by omega)
  have m3 := mul_bd (a := a') (x := b) (A := 10000) (X := 20000) (by omega) (by omega) (by omega) (by omega)
  have m4 := mul_bd (a := b) (x := b') (A := 20000) (X := 20000) (by omega) (by omega) (by omega) (by omega)
  have m5 := mul_bd (a := e1) (x := e2) (A := 10000) (X := 10000) (by omega) (by omega) (by omega) (by omega)
  have m6 := mul_bd (a := e) (x := e1 * e2) (A := 10000) (X := 100000000) (by omega) (by omega) (by omega) (by omega)
  have p0 : 0 < a * a' := Int.mul_pos (by omega) (by omega)
  have hI := Lib.hid (fun (v : Value) B w ho => idealOf_any (2 * a * a') [(-a * b', a), (-a' * b, a'), (X, Y)] A e t v B w ⟨by rw [Int.mul_assoc]; omega, by rw [Int.mul_assoc]; omega⟩ (by
    intro p hp
    simp only [List.mem_cons, List.not_mem_nil, or_false] at hp
    rcases hp with rfl | rfl | rfl
    · exact ⟨by simp only [Int.neg_mul]; omega, by simp only; omega⟩
    · exact ⟨by simp only [Int.neg_mul]; omega, by simp only; omega⟩
    · exact ⟨by simp only; omega, by simp only; omega⟩) (by simp) hsp hA he ho)
  have w1 : wrap64 (2 * a) = 2 * a := IntWalk.wrap64_in _ (by omega)
  have w2 : wrap64 (2 * a * a') = 2 * a * a' := IntWalk.wrap64_in _ (by rw [Int.mul_assoc]; omega)
  have i1 : IntKind.i64.wrap (-a) = -a := IntWalk.i64_in _ (by omega)
  have i2 : IntKind.i64.wrap (-a') = -a' := IntWalk.i64_in _ (by omega)
  have i3 : IntKind.i64.wrap (-(b + b')) = -(b + b') := IntWalk.i64_in _ (by omega)
  have w3 : wrap64 (-a * b') = -a * b' := IntWalk.wrap64_in _ (by rw [Int.neg_mul]; omega)
  have w4 : wrap64 (-a' * b) = -a' * b := IntWalk.wrap64_in _ (by rw [Int.neg_mul]; omega)
  have w5 : wrap64 (b * b') = b * b' := IntWalk.wrap64_in _ (by omega)
  have w6 : wrap64 (b * b' + d) = b * b' + d := IntWalk.wrap64_in _ (by omega)
  have w7 : wrap64 (b + b') = b + b' := IntWalk.wrap64_in _ (by omega)
  have w8 : wrap64 (e1 * e2) = e1 * e2 := IntWalk.wrap64_in _ (by omega)
  have w9 : wrap64 (e * (e1 * e2)) = e * (e1 * e2) := IntWalk.wrap64_in _ (by omega)
  have q1 : (b * b' + d).tdiv 2 = X := by rw [hX]; exact Int.mul_tdiv_cancel_left _ (by decide)
  have q2 : (-(b + b')).tdiv 2 = Y := by rw [hY, Int.neg_neg]; exact Int.mul_tdiv_cancel_left _ (by decide)
  have q3 : wrap64 X = X := IntWalk.wrap64_in _ (by omega)
  have q4 : wrap64 Y = Y := IntWalk.wrap64_in _ (by omega)
  clear hsp m1 m2 m3 m4 m5 m6 hX hY hd
  go_enter Tryz.func32, Tryz.ntmps32
  go_wp2_with fail
  refine (hI.out _ (w.heap.size + 1 + 1 + 1) _ (own_blk8 (Blk.new_at (by simp)))).mono ?_
  rintro e2 v1 ⟨rfl, hB1⟩
  have hZ1 := hB1.size
  (try simp at hZ1)
  have hX1 : Blk v1 w.heap.size 25 #[.int .i64 e1, .int .i64 a, .int .i64 b] := Blk.call (by (repeat (first | with_reducible assumption | (with_reducible apply Blk.new_at; (first | rfl | (simp; done))) | with_reducible apply Blk.store3 | with_reducible apply Blk.store4 | (with_reducible apply Blk.farp; (first | omega | (simp <;> omega))) | with_reducible apply Blk.allocp | with_reducible apply Blk.drew | with_reducible apply Blk.drewN))) hB1
  have hY1 : Blk v1 (w.heap.size + 1) 25 #[.int .i64 e2, .int .i64 a', .int .i64 b'] := Blk.call (by (repeat (first | with_reducible assumption | (with_reducible apply Blk.new_at; (first | rfl | (simp; done))) | with_reducible apply Blk.store3 | with_reducible apply Blk.store4 | (with_reducible apply Blk.farp; (first | omega | (simp <;> omega))) | with_reducible apply Blk.allocp | with_reducible apply Blk.drew | with_reducible apply Blk.drewN))) hB1
  have hR1 : Blk v1 (w.heap.size + 1 + 1) 25 #[.int .i64 0, .int .i64 0, .int .i64 0] := Blk.call (by (repeat (first | with_reducible assumption | (with_reducible apply Blk.new_at; (first | rfl | (simp; done))) | with_reducible apply Blk.store3 | with_reducible apply Blk.store4 | (with_reducible apply Blk.farp; (first | omega | (simp <;> omega))) | with_reducible apply Blk.allocp | with_reducible apply Blk.drew | with_reducible apply Blk.drewN))) hB1
  have cX1 := hX1.cell; have fX1 := hX1.frozen; have lX1 := hX1.lt; have mX1 := Nat.ne_of_gt lX1; have nX1 := Nat.ne_of_lt lX1
  have cY1 := hY1.cell; have fY1 := hY1.frozen; have lY1 := hY1.lt; have mY1 := Nat.ne_of_gt lY1; have nY1 := Nat.ne_of_lt lY1
  have cR1 := hR1.cell; have fR1 := hR1.frozen; have lR1 := hR1.lt; have mR1 := Nat.ne_of_gt lR1; have nR1 := Nat.ne_of_lt lR1
  go_wp2
  exact bodyPost_ret (v := .agg #[.int .i64 (e * (e1 * e2)), .int .i64 A, .int .i64 ((-t) % (2 * A))]) (by simp [results, Tryz.results32, go_sem, *]) rfl ⟨rfl, (by repeat (first | with_reducible exact Below.refl _ _ | with_reducible assumption | with_reducible apply Below.drew | with_reducible apply below_drewN | (with_reducible apply below_setp; (first | omega | (simp <;> omega))) | (with_reducible apply below_allocp; (first | omega | (simp <;> omega))) | (with_reducible refine below_viap (by assumption) ?_ ?_; (first | omega | (simp <;> omega)))))⟩
/-- What the product of two ideals is, but for the scales. -/
structure PdR (d a b a' b' e A t : Int) : Prop where
  A0 : 0 < A
  e0 : 0 < e
  e1 : e ≤ 10000
  sp : ∃ X Y, b * b' + d = 2 * X ∧ b + b' = -(2 * Y) ∧ SpEq [(2 * e * A, 0), (e * t, e)] (iL a b a' b' X Y)
theorem IdV.d2 {d e a b : Int} (h : IdV d e a b) : -2000 ≤ d ∧ d ≤ -3 := by
  have := h.dc
  unfold isDisc at this
  simp only [Bool.and_eq_true, decide_eq_true_eq] at this
  exact ⟨this.1, this.2.1⟩
set_option maxRecDepth 100000 in
set_option maxHeartbeats 3200000 in
theorem areIdeals_any (d e1 a b e2 a' b' : Int) (w : World) : Calls Tryz.prog 30 #[.int .i64 d, .agg #[.int .i64 e1, .int .i64 a, .int .i64 b], .agg #[.int .i64 e2, .int .i64 a', .int .i64 b']] w fun x w' => x = .returned (.bool (idB d e1 a b && idB d e2 a' b')) ∧ Below w.heap.size w w' := by
  have hI := Lib.hid (fun w => isIdeal_any d e1 a b w)
  have hJ := Lib.hid (fun w => isIdeal_any d e2 a' b' w)
  cases hx : idB d e1 a b with
  | false =>
    rw [hx] at hI
    go_enter Tryz.func30, Tryz.ntmps30
    go_wp2_with (go_at_call 66; (with_reducible refine (hI.out _).mono ?_); rintro e v1 ⟨rfl, hB1⟩; have hZ1 := hB1.size; (try simp at hZ1); (try have zl1 : w.heap.size < v1.heap.size := by omega); (try have ze1 : w.heap.size ≤ v1.heap.size := by omega); (try have zn1 : ¬ w.heap.size = v1.heap.size := by omega); (try have zm1 : ¬ v1.heap.size = w.heap.size := by omega); have hX1 : Blk v1 (w.heap.size) 25 #[.int .i64 e1, .int .i64 a, .int .i64 b] := Blk.call (by (repeat (first | with_reducible assumption | (with_reducible apply Blk.new_at; (first | rfl | (simp; done))) | with_reducible apply Blk.store3 | with_reducible apply Blk.store4 | (with_reducible apply Blk.farp; (first | omega | (simp <;> omega))) | with_reducible apply Blk.allocp | with_reducible apply Blk.drew | with_reducible apply Blk.drewN))) hB1; have cX1 := hX1.cell; have fX1 := hX1.frozen; have lX1 := hX1.lt; have mX1 := Nat.ne_of_gt lX1; have nX1 := Nat.ne_of_lt lX1; have hY1 : Blk v1 (w.heap.size + 1) 25 #[.int .i64 e2, .int .i64 a', .int .i64 b'] := Blk.call (by (repeat (first | with_reducible assumption | (with_reducible apply Blk.new_at; (first | rfl | (simp; done))) | with_reducible apply Blk.store3 | with_reducible apply Blk.store4 | (with_reducible apply Blk.farp; (first | omega | (simp <;> omega))) | with_reducible apply Blk.allocp | with_reducible apply Blk.drew | with_reducible apply Blk.drewN))) hB1; have cY1 := hY1.cell; have fY1 := hY1.frozen; have lY1 := hY1.lt; have mY1 := Nat.ne_of_gt lY1; have nY1 := Nat.ne_of_lt lY1)
    go_ret
    exact ⟨rfl, (by repeat (first | with_reducible exact Below.refl _ _ | with_reducible assumption | with_reducible apply Below.drew | with_reducible apply below_drewN | (with_reducible apply below_setp; (first | omega | (simp <;> omega))) | (with_reducible apply below_allocp; (first | omega | (simp <;> omega))) | (with_reducible refine below_viap (by assumption) ?_ ?_; (first | omega | (simp <;> omega)))))⟩
  | true =>
    rw [hx] at hI
    go_enter Tryz.func30, Tryz.ntmps30
    go_wp2_with (first | (go_at_call 66; (with_reducible refine (hI.out _).mono ?_); rintro e v1 ⟨rfl, hB1⟩; have hZ1 := hB1.size; (try simp at hZ1); (try have zl1 : w.heap.size < v1.heap.size := by omega); (try have ze1 : w.heap.size ≤ v1.heap.size := by omega); (try have zn1 : ¬ w.heap.size = v1.heap.size := by omega); (try have zm1 : ¬ v1.heap.size = w.heap.size := by omega); have hX1 : Blk v1 (w.heap.size) 25 #[.int .i64 e1, .int .i64 a, .int .i64 b] := Blk.call (by (repeat (first | with_reducible assumption | (with_reducible apply Blk.new_at; (first | rfl | (simp; done))) | with_reducible apply Blk.store3 | with_reducible apply Blk.store4 | (with_reducible apply Blk.farp; (first | omega | (simp <;> omega))) | with_reducible apply Blk.allocp | with_reducible apply Blk.drew | with_reducible apply Blk.drewN))) hB1; have cX1 := hX1.cell; have fX1 := hX1.frozen; have lX1 := hX1.lt; have mX1 := Nat.ne_of_gt lX1; have nX1 := Nat.ne_of_lt lX1; have hY1 : Blk v1 (w.heap.size + 1) 25 #[.int .i64 e2, .int .i64 a', .int .i64 b'] := Blk.call (by (repeat (first | with_reducible assumption | (with_reducible apply Blk.new_at; (first | rfl | (simp; done))) | with_reducible apply Blk.store3 | with_reducible apply Blk.store4 | (with_reducible apply Blk.farp; (first | omega | (simp <;> omega))) | with_reducible apply Blk.allocp | with_reducible apply Blk.drew | with_reducible apply Blk.drewN))) hB1; have cY1 := hY1.cell; have fY1 := hY1.frozen; have lY1 := hY1.lt; have mY1 := Nat.ne_of_gt lY1; have nY1 := Nat.ne_of_lt lY1) | (go_at_call 66; (with_reducible refine (hJ.out _).mono ?_); rintro e v2 ⟨rfl, hB2⟩; have hZ2 := hB2.size; (try simp at hZ2); (try have zl2 : w.heap.size < v2.heap.size := by omega); (try have ze2 : w.heap.size ≤ v2.heap.size := by omega); (try have zn2 : ¬ w.heap.size = v2.heap.size := by omega); (try have zm2 : ¬ v2.heap.size = w.heap.size := by omega); have hX2 : Blk v2 (w.heap.size) 25 #[.int .i64 e1, .int .i64 a, .int .i64 b] := Blk.call (by (repeat (first | with_reducible assumption | (with_reducible apply Blk.new_at; (first | rfl | (simp; done))) | with_reducible apply Blk.store3 | with_reducible apply Blk.store4 | (with_reducible apply Blk.farp; (first | omega | (simp <;> omega))) | with_reducible apply Blk.allocp | with_reducible apply Blk.drew | with_reducible apply Blk.drewN))) hB2; have cX2 := hX2.cell; have fX2 := hX2.frozen; have lX2 := hX2.lt; have mX2 := Nat.ne_of_gt lX2; have nX2 := Nat.ne_of_lt lX2; have hY2 : Blk v2 (w.heap.size + 1) 25 #[.int .i64 e2, .int .i64 a', .int .i64 b'] := Blk.call (by (repeat (first | with_reducible assumption | (with_reducible apply Blk.new_at; (first | rfl | (simp; done))) | with_reducible apply Blk.store3 | with_reducible apply Blk.store4 | (with_reducible apply Blk.farp; (first | omega | (simp <;> omega))) | with_reducible apply Blk.allocp | with_reducible apply Blk.drew | with_reducible apply Blk.drewN))) hB2; have cY2 := hY2.cell; have fY2 := hY2.frozen; have lY2 := hY2.lt; have mY2 := Nat.ne_of_gt lY2; have nY2 := Nat.ne_of_lt lY2))
    go_ret
    exact ⟨rfl, (by repeat (first | with_reducible exact Below.refl _ _ | with_reducible assumption | with_reducible apply Below.drew | with_reducible apply below_drewN | (with_reducible apply below_setp; (first | omega | (simp <;> omega))) | (with_reducible apply below_allocp; (first | omega | (simp <;> omega))) | (with_reducible refine below_viap (by assumption) ?_ ?_; (first | omega | (simp <;> omega)))))⟩
set_option maxRecDepth 100000 in
set_option maxHeartbeats 3200000 in
theorem implIP_no (d e1 a b e2 a' b' : Int) (w : World) (h : (idB d e1 a b && idB d e2 a' b') = false) : Calls Tryz.prog 8 #[.int .i64 d, .agg #[.int .i64 e1, .int .i64 a, .int .i64 b], .agg #[.int .i64 e2, .int .i64 a', .int .i64 b']] w fun x w' => x = .returned (.tuple #[.agg #[.int .i64 0, .int .i64 0, .int .i64 0], .bool false]) ∧ Below w.heap.size w w' := by
  have hI := Lib.hid (fun w => areIdeals_any d e1 a b e2 a' b' w)
  rw [h] at hI
  clear h
  go_enter Tryz.func8, Tryz.ntmps8
  go_wp2_with (go_at_call 30; (with_reducible refine (hI.out _).mono ?_); rintro e v1 ⟨rfl, hB1⟩; have hZ1 := hB1.size; (try simp at hZ1); (try have zl1 : w.heap.size < v1.heap.size := by omega); (try have ze1 : w.heap.size ≤ v1.heap.size := by omega); (try have zn1 : ¬ w.heap.size = v1.heap.size := by omega); (try have zm1 : ¬ v1.heap.size = w.heap.size := by omega); have hX1 : Blk v1 (w.heap.size) 25 #[.int .i64 e1, .int .i64 a, .int .i64 b] := Blk.call (by (repeat (first | with_reducible assumption | (with_reducible apply Blk.new_at; (first | rfl | (simp; done))) | with_reducible apply Blk.store3 | with_reducible apply Blk.store4 | (with_reducible apply Blk.farp; (first | omega | (simp <;> omega))) | with_reducible apply Blk.allocp | with_reducible apply Blk.drew | with_reducible apply Blk.drewN))) hB1; have cX1 := hX1.cell; have fX1 := hX1.frozen; have lX1 := hX1.lt; have mX1 := Nat.ne_of_gt lX1; have nX1 := Nat.ne_of_lt lX1; have hY1 : Blk v1 (w.heap.size + 1) 25 #[.int .i64 e2, .int .i64 a', .int .i64 b'] := Blk.call (by (repeat (first | with_reducible assumption | (with_reducible apply Blk.new_at; (first | rfl | (simp; done))) | with_reducible apply Blk.store3 | with_reducible apply Blk.store4 | (with_reducible apply Blk.farp; (first | omega | (simp <;> omega))) | with_reducible apply Blk.allocp | with_reducible apply Blk.drew | with_reducible apply Blk.drewN))) hB1; have cY1 := hY1.cell; have fY1 := hY1.frozen; have lY1 := hY1.lt; have mY1 := Nat.ne_of_gt lY1; have nY1 := Nat.ne_of_lt lY1; have hR1 : Blk v1 (w.heap.size + 1 + 1) 25 #[.int .i64 0, .int .i64 0, .int .i64 0] := Blk.call (by (repeat (first | with_reducible assumption | (with_reducible apply Blk.new_at; (first | rfl | (simp; done))) | with_reducible apply Blk.store3 | with_reducible apply Blk.store4 | (with_reducible apply Blk.farp; (first | omega | (simp <;> omega))) | with_reducible apply Blk.allocp | with_reducible apply Blk.drew | with_reducible apply Blk.drewN))) hB1; have cR1 := hR1.cell; have fR1 := hR1.frozen; have lR1 := hR1.lt; have mR1 := Nat.ne_of_gt lR1; have nR1 := Nat.ne_of_lt lR1)
  exact bodyPost_ret (v := .tuple #[.agg #[.int .i64 0, .int .i64 0, .int .i64 0], .bool false]) (by simp [results, Tryz.results8, go_sem, *]) rfl ⟨rfl, (by repeat (first | with_reducible exact Below.refl _ _ | with_reducible assumption | with_reducible apply Below.drew | with_reducible apply below_drewN | (with_reducible apply below_setp; (first | omega | (simp <;> omega))) | (with_reducible apply below_allocp; (first | omega | (simp <;> omega))) | (with_reducible refine below_viap (by assumption) ?_ ?_; (first | omega | (simp <;> omega)))))⟩
set_option maxRecDepth 100000 in
set_option maxHeartbeats 3200000 in
theorem implIP_any (d e1 a b e2 a' b' e A t : Int) (w : World) (hx : IdV d e1 a b) (hy : IdV d e2 a' b') (hp : PdR d a b a' b' e A t) : Calls Tryz.prog 8 #[.int .i64 d, .agg #[.int .i64 e1, .int .i64 a, .int .i64 b], .agg #[.int .i64 e2, .int .i64 a', .int .i64 b']] w fun x w' =>
    x = .returned (.tuple #[.agg (if idB d (e * (e1 * e2)) A ((-t) % (2 * A)) = true then #[.int .i64 (e * (e1 * e2)), .int .i64 A, .int .i64 ((-t) % (2 * A))] else #[.int .i64 0, .int .i64 0, .int .i64 0]), .bool (idB d (e * (e1 * e2)) A ((-t) % (2 * A)))]) ∧ Below w.heap.size w w' := by
  have hI := Lib.hid (fun w => areIdeals_any d e1 a b e2 a' b' w)
  rw [idB_iff.2 hx, idB_iff.2 hy] at hI
  obtain ⟨X, Y, p1, p2, p3⟩ := hp.sp
  have h1 := hx.d2; have h2 := hx.e1; have h3 := hx.e2; have h4 := hy.e1; have h5 := hy.e2; have h6 := hx.a1; have h7 := hx.a2; have h8 := hy.a1; have h9 := hy.a2
  have g1 := hx.b0; have g2 := hx.b2; have g3 := hy.b0; have g4 := hy.b2
  have hT := Lib.hid (fun w => idealTimes_any d e1 a b e2 a' b' X Y A e t w (by omega) ⟨h2, h3⟩ ⟨h4, h5⟩ ⟨h6, h7⟩ ⟨h8, h9⟩ (by omega) (by omega) p1 p2 p3 hp.A0 hp.e0 hp.e1)
  clear p1 p2 p3 h1 h2 h3 h4 h5 h6 h7 h8 h9 g1 g2 g3 g4 hx hy hp
  generalize e * (e1 * e2) = E at *
  generalize (-t) % (2 * A) = R at *
  have hV := Lib.hid (fun w => validIdeal_any d E A R w)
  obtain ⟨cs, hcs⟩ : ∃ x : Array Value, x = (if idB d E A R = true then #[.int .i64 E, .int .i64 A, .int .i64 R] else #[.int .i64 0, .int .i64 0, .int .i64 0]) := ⟨_, rfl⟩
  rw [← hcs] at hV ⊢
  have hq : ∃ q1 q2 q3 : Int, cs = #[.int .i64 q1, .int .i64 q2, .int .i64 q3] := by
    rw [hcs]
    split
    · exact ⟨_, _, _, rfl⟩
    · exact ⟨_, _, _, rfl⟩
  obtain ⟨q1, q2, q3, hq⟩ := hq
  clear hcs
  subst hq
  generalize idB d E A R = bo at *
  go_enter Tryz.func8, Tryz.ntmps8
  go_wp2_with (first | (go_at_call 30; (with_reducible refine (hI.out _).mono ?_); rintro e v1 ⟨rfl, hB1⟩; have hZ1 := hB1.size; (try simp at hZ1); (try have zl1 : w.heap.size < v1.heap.size := by omega); (try have ze1 : w.heap.size ≤ v1.heap.size := by omega); (try have zn1 : ¬ w.heap.size = v1.heap.size := by omega); (try have zm1 : ¬ v1.heap.size = w.heap.size := by omega); have hX1 : Blk v1 (w.heap.size) 25 #[.int .i64 e1, .int .i64 a, .int .i64 b] := Blk.call (by (repeat (first | with_reducible assumption | (with_reducible apply Blk.new_at; (first | rfl | (simp; done))) | with_reducible apply Blk.store3 | with_reducible apply Blk.store4 | (with_reducible apply Blk.farp; (first | omega | (simp <;> omega))) | with_reducible apply Blk.allocp | with_reducible apply Blk.drew | with_reducible apply Blk.drewN))) hB1; have cX1 := hX1.cell; have fX1 := hX1.frozen; have lX1 := hX1.lt; have mX1 := Nat.ne_of_gt lX1; have nX1 := Nat.ne_of_lt lX1; have hY1 : Blk v1 (w.heap.size + 1) 25 #[.int .i64 e2, .int .i64 a', .int .i64 b'] := Blk.call (by (repeat (first | with_reducible assumption | (with_reducible apply Blk.new_at; (first | rfl | (simp; done))) | with_reducible apply Blk.store3 | with_reducible apply Blk.store4 | (with_reducible apply Blk.farp; (first | omega | (simp <;> omega))) | with_reducible apply Blk.allocp | with_reducible apply Blk.drew | with_reducible apply Blk.drewN))) hB1; have cY1 := hY1.cell; have fY1 := hY1.frozen; have lY1 := hY1.lt; have mY1 := Nat.ne_of_gt lY1; have nY1 := Nat.ne_of_lt lY1; have hR1 : Blk v1 (w.heap.size + 1 + 1) 25 #[.int .i64 0, .int .i64 0, .int .i64 0] := Blk.call (by (repeat (first | with_reducible assumption | (with_reducible apply Blk.new_at; (first | rfl | (simp; done))) | with_reducible apply Blk.store3 | with_reducible apply Blk.store4 | (with_reducible apply Blk.farp; (first | omega | (simp <;> omega))) | with_reducible apply Blk.allocp | with_reducible apply Blk.drew | with_reducible apply Blk.drewN))) hB1; have cR1 := hR1.cell; have fR1 := hR1.frozen; have lR1 := hR1.lt; have mR1 := Nat.ne_of_gt lR1; have nR1 := Nat.ne_of_lt lR1) | (go_at_call 32; (with_reducible refine (hT.out _).mono ?_); rintro e v2 ⟨rfl, hB2⟩; have hZ2 := hB2.size; (try simp at hZ2); (try have zl2 : w.heap.size < v2.heap.size := by omega); (try have ze2 : w.heap.size ≤ v2.heap.size := by omega); (try have zn2 : ¬ w.heap.size = v2.heap.size := by omega); (try have zm2 : ¬ v2.heap.size = w.heap.size := by omega); have hX2 : Blk v2 (w.heap.size) 25 #[.int .i64 e1, .int .i64 a, .int .i64 b] := Blk.call (by (repeat (first | with_reducible assumption | (with_reducible apply Blk.new_at; (first | rfl | (simp; done))) | with_reducible apply Blk.store3 | with_reducible apply Blk.store4 | (with_reducible apply Blk.farp; (first | omega | (simp <;> omega))) | with_reducible apply Blk.allocp | with_reducible apply Blk.drew | with_reducible apply Blk.drewN))) hB2; have cX2 := hX2.cell; have fX2 := hX2.frozen; have lX2 := hX2.lt; have mX2 := Nat.ne_of_gt lX2; have nX2 := Nat.ne_of_lt lX2; have hY2 : Blk v2 (w.heap.size + 1) 25 #[.int .i64 e2, .int .i64 a', .int .i64 b'] := Blk.call (by (repeat (first | with_reducible assumption | (with_reducible apply Blk.new_at; (first | rfl | (simp; done))) | with_reducible apply Blk.store3 | with_reducible apply Blk.store4 | (with_reducible apply Blk.farp; (first | omega | (simp <;> omega))) | with_reducible apply Blk.allocp | with_reducible apply Blk.drew | with_reducible apply Blk.drewN))) hB2; have cY2 := hY2.cell; have fY2 := hY2.frozen; have lY2 := hY2.lt; have mY2 := Nat.ne_of_gt lY2; have nY2 := Nat.ne_of_lt lY2; have hR2 : Blk v2 (w.heap.size + 1 + 1) 25 #[.int .i64 0, .int .i64 0, .int .i64 0] := Blk.call (by (repeat (first | with_reducible assumption | (with_reducible apply Blk.new_at; (first | rfl | (simp; done))) | with_reducible apply Blk.store3 | with_reducible apply Blk.store4 | (with_reducible apply Blk.farp; (first | omega | (simp <;> omega))) | with_reducible apply Blk.allocp | with_reducible apply Blk.drew | with_reducible apply Blk.drewN))) hB2; have cR2 := hR2.cell; have fR2 := hR2.frozen; have lR2 := hR2.lt; have mR2 := Nat.ne_of_gt lR2; have nR2 := Nat.ne_of_lt lR2) | (go_at_call 31; (with_reducible refine (hV.out _).mono ?_); rintro e v3 ⟨rfl, hB3⟩; have hZ3 := hB3.size; (try simp at hZ3); (try have zl3 : w.heap.size < v3.heap.size := by omega); (try have ze3 : w.heap.size ≤ v3.heap.size := by omega); (try have zn3 : ¬ w.heap.size = v3.heap.size := by omega); (try have zm3 : ¬ v3.heap.size = w.heap.size := by omega); have hX3 : Blk v3 (w.heap.size) 25 #[.int .i64 e1, .int .i64 a, .int .i64 b] := Blk.call (by (repeat (first | with_reducible assumption | (with_reducible apply Blk.new_at; (first | rfl | (simp; done))) | with_reducible apply Blk.store3 | with_reducible apply Blk.store4 | (with_reducible apply Blk.farp; (first | omega | (simp <;> omega))) | with_reducible apply Blk.allocp | with_reducible apply Blk.drew | with_reducible apply Blk.drewN))) hB3; have cX3 := hX3.cell; have fX3 := hX3.frozen; have lX3 := hX3.lt; have mX3 := Nat.ne_of_gt lX3; have nX3 := Nat.ne_of_lt lX3; have hY3 : Blk v3 (w.heap.size + 1) 25 #[.int .i64 e2, .int .i64 a', .int .i64 b'] := Blk.call (by (repeat (first | with_reducible assumption | (with_reducible apply Blk.new_at; (first | rfl | (simp; done))) | with_reducible apply Blk.store3 | with_reducible apply Blk.store4 | (with_reducible apply Blk.farp; (first | omega | (simp <;> omega))) | with_reducible apply Blk.allocp | with_reducible apply Blk.drew | with_reducible apply Blk.drewN))) hB3; have cY3 := hY3.cell; have fY3 := hY3.frozen; have lY3 := hY3.lt; have mY3 := Nat.ne_of_gt lY3; have nY3 := Nat.ne_of_lt lY3; have hR3 : Blk v3 (w.heap.size + 1 + 1) 25 #[.int .i64 0, .int .i64 0, .int .i64 0] := Blk.call (by (repeat (first | with_reducible assumption | (with_reducible apply Blk.new_at; (first | rfl | (simp; done))) | with_reducible apply Blk.store3 | with_reducible apply Blk.store4 | (with_reducible apply Blk.farp; (first | omega | (simp <;> omega))) | with_reducible apply Blk.allocp | with_reducible apply Blk.drew | with_reducible apply Blk.drewN))) hB3; have cR3 := hR3.cell; have fR3 := hR3.frozen; have lR3 := hR3.lt; have mR3 := Nat.ne_of_gt lR3; have nR3 := Nat.ne_of_lt lR3))
  exact bodyPost_ret (v := .tuple #[.agg #[.int .i64 q1, .int .i64 q2, .int .i64 q3], .bool bo]) (by simp [results, Tryz.results8, go_sem, *]) rfl ⟨rfl, (by repeat (first | with_reducible exact Below.refl _ _ | with_reducible assumption | with_reducible apply Below.drew | with_reducible apply below_drewN | (with_reducible apply below_setp; (first | omega | (simp <;> omega))) | (with_reducible apply below_allocp; (first | omega | (simp <;> omega))) | (with_reducible refine below_viap (by assumption) ?_ ?_; (first | omega | (simp <;> omega)))))⟩
end
end Go.Proofs.YtohgccgbbipjjaaGreat
