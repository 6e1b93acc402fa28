/- Contracts: which ideals are valid, of both sides (written by gen_RH.py). -/
import Derived.Test.YtjjkndgokdofdaaK7
import Derived.Test.YtjjkndgokdofdaaNA
namespace Go.Proofs.Ytjjkndgokdofdaa
open Go.RowKit

def idR (d a b : Int) : Int := (b * b - d) % (4 * a)
def idB (d e a b : Int) : Bool := isDisc d && (decide (1 ≤ e) && (decide (e ≤ 10000) && (decide (1 ≤ a) && (decide (a ≤ 10000) && (decide (0 ≤ b) && (decide (b < 2 * a) && decide (idR d a b = 0)))))))
/-- What is said of a valid ideal. -/
structure IdV (d e a b : Int) : Prop where
  dc : isDisc d = true
  e1 : 1 ≤ e
  e2 : e ≤ 10000
  a1 : 1 ≤ a
  a2 : a ≤ 10000
  b0 : 0 ≤ b
  b2 : b < 2 * a
  r : (b * b - d) % (4 * a) = 0
theorem idB_iff {d e a b : Int} : idB d e a b = true ↔ IdV d e a b := by
  unfold idB idR
  simp only [Bool.and_eq_true, decide_eq_true_eq]
  exact ⟨fun ⟨h1, h2, h3, h4, h5, h6, h7, h8⟩ => ⟨h1, h2, h3, h4, h5, h6, h7, h8⟩, fun h => ⟨h.dc, h.e1, h.e2, h.a1, h.a2, h.b0, h.b2, h.r⟩⟩
set_option maxRecDepth 100000 in
set_option maxHeartbeats 3200000 in
theorem isIdeal_any (d e a b : Int) (w : World) : Calls Try.prog 45 #[.int .i64 d, .agg #[.int .i64 e, .int .i64 a, .int .i64 b]] w fun x w' => x = .returned (.bool (idB d e a b)) ∧ Below w.heap.size w w' := by
  unfold idB
  cases hc : isDisc d with
  | false =>
    rw [Bool.false_and]
    go_enter Try.func45, Try.ntmps45
    go_wp2_with (go_at_call 57; (with_reducible refine (negDisc_eq d false _ hc).mono ?_); rintro e v ⟨rfl, rfl⟩)
    go_ret
    exact ⟨rfl, (by repeat (first | with_reducible exact Below.refl _ _ | with_reducible assumption | with_reducible apply Below.drew | with_reducible apply below_drewN | (with_reducible apply below_setp; (first | omega | (simp <;> omega))) | (with_reducible apply below_allocp; (first | omega | (simp <;> omega))) | (with_reducible refine below_viap (by assumption) ?_ ?_; (first | omega | (simp <;> omega)))))⟩
  | true =>
    rw [Bool.true_and]
    have hc0 := hc
    unfold isDisc at hc0
    simp only [Bool.and_eq_true, decide_eq_true_eq] at hc0
    obtain ⟨q1, q2, _⟩ := hc0
    by_cases h0 : 1 ≤ e
    rotate_left
    · have d0 : decide (1 ≤ e) = false := decide_eq_false h0
      rw [d0, Bool.false_and]
      go_enter Try.func45, Try.ntmps45
      go_wp2_with (go_at_call 57; (with_reducible refine (negDisc_eq d true _ hc).mono ?_); rintro e v ⟨rfl, rfl⟩)
      go_ret
      exact ⟨rfl, (by repeat (first | with_reducible exact Below.refl _ _ | with_reducible assumption | with_reducible apply Below.drew | with_reducible apply below_drewN | (with_reducible apply below_setp; (first | omega | (simp <;> omega))) | (with_reducible apply below_allocp; (first | omega | (simp <;> omega))) | (with_reducible refine below_viap (by assumption) ?_ ?_; (first | omega | (simp <;> omega)))))⟩
    have d0 : decide (1 ≤ e) = true := decide_eq_true h0
    rw [d0, Bool.true_and]
    by_cases h1 : e ≤ 10000
    rotate_left
    · have d1 : decide (e ≤ 10000) = false := decide_eq_false h1
      rw [d1, Bool.false_and]
      go_enter Try.func45, Try.ntmps45
      go_wp2_with (go_at_call 57; (with_reducible refine (negDisc_eq d true _ hc).mono ?_); rintro e v ⟨rfl, rfl⟩)
      go_ret
      exact ⟨rfl, (by repeat (first | with_reducible exact Below.refl _ _ | with_reducible assumption | with_reducible apply Below.drew | with_reducible apply below_drewN | (with_reducible apply below_setp; (first | omega | (simp <;> omega))) | (with_reducible apply below_allocp; (first | omega | (simp <;> omega))) | (with_reducible refine below_viap (by assumption) ?_ ?_; (first | omega | (simp <;> omega)))))⟩
    have d1 : decide (e ≤ 10000) = true := decide_eq_true h1
    rw [d1, Bool.true_and]
    by_cases h2 : 1 ≤ a
    rotate_left
    · have d2 : decide (1 ≤ a) = false := decide_eq_false h2
      rw [d2, Bool.false_and]
      go_enter Try.func45, Try.ntmps45
      go_wp2_with (go_at_call 57; (with_reducible refine (negDisc_eq d true _ hc).mono ?_); rintro e v ⟨rfl, rfl⟩)
      go_ret
      exact ⟨rfl, (by repeat (first | with_reducible exact Below.refl _ _ | with_reducible assumption | with_reducible apply Below.drew | with_reducible apply below_drewN | (with_reducible apply below_setp; (first | omega | (simp <;> omega))) | (with_reducible apply below_allocp; (first | omega | (simp <;> omega))) | (with_reducible refine below_viap (by assumption) ?_ ?_; (first | omega | (simp <;> omega)))))⟩
    have d2 : decide (1 ≤ a) = true := decide_eq_true h2
    rw [d2, Bool.true_and]
    by_cases h3 : a ≤ 10000
    rotate_left
    · have d3 : decide (a ≤ 10000) = false := decide_eq_false h3
      rw [d3, Bool.false_and]
      go_enter Try.func45, Try.ntmps45
      go_wp2_with (go_at_call 57; (with_reducible refine (negDisc_eq d true _ hc).mono ?_); rintro e v ⟨rfl, rfl⟩)
      go_ret
      exact ⟨rfl, (by repeat (first | with_reducible exact Below.refl _ _ | with_reducible assumption | with_reducible apply Below.drew | with_reducible apply below_drewN | (with_reducible apply below_setp; (first | omega | (simp <;> omega))) | (with_reducible apply below_allocp; (first | omega | (simp <;> omega))) | (with_reducible refine below_viap (by assumption) ?_ ?_; (first | omega | (simp <;> omega)))))⟩
    have d3 : decide (a ≤ 10000) = true := decide_eq_true h3
    rw [d3, Bool.true_and]
    by_cases h4 : 0 ≤ b
    rotate_left
    · have d4 : decide (0 ≤ b) = false := decide_eq_false h4
      rw [d4, Bool.false_and]
      go_enter Try.func45, Try.ntmps45
      go_wp2_with (go_at_call 57; (with_reducible refine (negDisc_eq d true _ hc).mono ?_); rintro e v ⟨rfl, rfl⟩)
      go_ret
      exact ⟨rfl, (by repeat (first | with_reducible exact Below.refl _ _ | with_reducible assumption | with_reducible apply Below.drew | with_reducible apply below_drewN | (with_reducible apply below_setp; (first | omega | (simp <;> omega))) | (with_reducible apply below_allocp; (first | omega | (simp <;> omega))) | (with_reducible refine below_viap (by assumption) ?_ ?_; (first | omega | (simp <;> omega)))))⟩
    have d4 : decide (0 ≤ b) = true := decide_eq_true h4
    rw [d4, Bool.true_and]
    by_cases h5 : b < 2 * a
    rotate_left
    · have d5 : decide (b < 2 * a) = false := decide_eq_false h5
      rw [d5, Bool.false_and]
      go_enter Try.func45, Try.ntmps45
      go_wp2_with (go_at_call 57; (with_reducible refine (negDisc_eq d true _ hc).mono ?_); rintro e v ⟨rfl, rfl⟩)
      go_ret
      exact ⟨rfl, (by repeat (first | with_reducible exact Below.refl _ _ | with_reducible assumption | with_reducible apply Below.drew | with_reducible apply below_drewN | (with_reducible apply below_setp; (first | omega | (simp <;> omega))) | (with_reducible apply below_allocp; (first | omega | (simp <;> omega))) | (with_reducible refine below_viap (by assumption) ?_ ?_; (first | omega | (simp <;> omega)))))⟩
    have d5 : decide (b < 2 * a) = true := decide_eq_true h5
    rw [d5, Bool.true_and]
    have bb := mul_bd (a := b) (x := b) (A := 20000) (X := 20000) (by omega) (by omega) (by omega) (by omega)
    have bb0 : 0 ≤ b * b := Int.mul_nonneg h4 h4
    have hr1 : (b * b - d) % (4 * a) = idR d a b := rfl
    have hr2 : (b * b - d).tmod (4 * a) = idR d a b := by unfold idR; exact Int.tmod_eq_emod_of_nonneg (by omega)
    have hw1 : wrap64 (b * b) = b * b := IntWalk.wrap64_in _ (by omega)
    have hw2 : IntKind.i64.wrap (b * b) = b * b := IntWalk.i64_in _ (by omega)
    have hz : ¬ 4 * a = 0 := by omega
    have hz2 : (4 * a == 0) = false := beq_eq_false_iff_ne.2 hz
    have hw3 : wrap64 (b * b - d) = b * b - d := IntWalk.wrap64_in _ (by omega)
    generalize idR d a b = r at *
    go_enter Try.func45, Try.ntmps45
    go_wp2_with (go_at_call 57; (with_reducible refine (negDisc_eq d true _ hc).mono ?_); rintro e v ⟨rfl, rfl⟩)
    go_ret
    exact ⟨by first | rfl | (rw [show decide (r = 0) = (r == 0) from (Bool.eq_iff_iff.2 (by simp))]; rfl), (by repeat (first | with_reducible exact Below.refl _ _ | with_reducible assumption | with_reducible apply Below.drew | with_reducible apply below_drewN | (with_reducible apply below_setp; (first | omega | (simp <;> omega))) | (with_reducible apply below_allocp; (first | omega | (simp <;> omega))) | (with_reducible refine below_viap (by assumption) ?_ ?_; (first | omega | (simp <;> omega)))))⟩
set_option maxRecDepth 100000 in
set_option maxHeartbeats 3200000 in
theorem validIdeal_any (d e a b : Int) (w : World) : Calls Try.prog 41 #[.int .i64 d, .agg #[.int .i64 e, .int .i64 a, .int .i64 b]] w fun x w' => x = .returned (.tuple #[.agg (if idB d e a b = true then #[.int .i64 e, .int .i64 a, .int .i64 b] else #[.int .i64 0, .int .i64 0, .int .i64 0]), .bool (idB d e a b)]) ∧ Below w.heap.size w w' := by
  have hI := Lib.hid (fun w => isIdeal_any d e a b w)
  cases hx : idB d e a b with
  | false =>
    rw [hx] at hI
    rw [if_neg (by simp)]
    go_enter Try.func41, Try.ntmps41
    go_wp2_with (go_at_call 45; (with_reducible refine (hI.out _).mono ?_); rintro e v1 ⟨rfl, hB1⟩; have hZ1 := hB1.size; (try simp at hZ1); (try have zl1 : w.heap.size < v1.heap.size := by omega); (try have ze1 : w.heap.size ≤ v1.heap.size := by omega); (try have zn1 : ¬ w.heap.size = v1.heap.size := by omega); (try have zm1 : ¬ v1.heap.size = w.heap.size := by omega); have hA1 : Blk v1 (w.heap.size) 25 #[.int .i64 e, .int .i64 a, .int .i64 b] := Blk.call (by (repeat (first | with_reducible assumption | (with_reducible apply Blk.new_at; (first | rfl | (simp; done))) | with_reducible apply Blk.store3 | with_reducible apply Blk.store4 | (with_reducible apply Blk.farp; (first | omega | (simp <;> omega))) | with_reducible apply Blk.allocp | with_reducible apply Blk.drew | with_reducible apply Blk.drewN))) hB1; have cA1 := hA1.cell; have fA1 := hA1.frozen; have lA1 := hA1.lt; have mA1 := Nat.ne_of_gt lA1; have nA1 := Nat.ne_of_lt lA1; have hR1 : Blk v1 (w.heap.size + 1) 25 #[.int .i64 0, .int .i64 0, .int .i64 0] := Blk.call (by (repeat (first | with_reducible assumption | (with_reducible apply Blk.new_at; (first | rfl | (simp; done))) | with_reducible apply Blk.store3 | with_reducible apply Blk.store4 | (with_reducible apply Blk.farp; (first | omega | (simp <;> omega))) | with_reducible apply Blk.allocp | with_reducible apply Blk.drew | with_reducible apply Blk.drewN))) hB1; have cR1 := hR1.cell; have fR1 := hR1.frozen; have lR1 := hR1.lt; have mR1 := Nat.ne_of_gt lR1; have nR1 := Nat.ne_of_lt lR1)
    exact bodyPost_ret (v := .tuple #[.agg #[.int .i64 0, .int .i64 0, .int .i64 0], .bool false]) (by simp [results, Try.results41, go_sem, *]) rfl ⟨rfl, (by repeat (first | with_reducible exact Below.refl _ _ | with_reducible assumption | with_reducible apply Below.drew | with_reducible apply below_drewN | (with_reducible apply below_setp; (first | omega | (simp <;> omega))) | (with_reducible apply below_allocp; (first | omega | (simp <;> omega))) | (with_reducible refine below_viap (by assumption) ?_ ?_; (first | omega | (simp <;> omega)))))⟩
  | true =>
    rw [hx] at hI
    rw [if_pos rfl]
    go_enter Try.func41, Try.ntmps41
    go_wp2_with (go_at_call 45; (with_reducible refine (hI.out _).mono ?_); rintro e v1 ⟨rfl, hB1⟩; have hZ1 := hB1.size; (try simp at hZ1); (try have zl1 : w.heap.size < v1.heap.size := by omega); (try have ze1 : w.heap.size ≤ v1.heap.size := by omega); (try have zn1 : ¬ w.heap.size = v1.heap.size := by omega); (try have zm1 : ¬ v1.heap.size = w.heap.size := by omega); have hA1 : Blk v1 (w.heap.size) 25 #[.int .i64 e, .int .i64 a, .int .i64 b] := Blk.call (by (repeat (first | with_reducible assumption | (with_reducible apply Blk.new_at; (first | rfl | (simp; done))) | with_reducible apply Blk.store3 | with_reducible apply Blk.store4 | (with_reducible apply Blk.farp; (first | omega | (simp <;> omega))) | with_reducible apply Blk.allocp | with_reducible apply Blk.drew | with_reducible apply Blk.drewN))) hB1; have cA1 := hA1.cell; have fA1 := hA1.frozen; have lA1 := hA1.lt; have mA1 := Nat.ne_of_gt lA1; have nA1 := Nat.ne_of_lt lA1; have hR1 : Blk v1 (w.heap.size + 1) 25 #[.int .i64 0, .int .i64 0, .int .i64 0] := Blk.call (by (repeat (first | with_reducible assumption | (with_reducible apply Blk.new_at; (first | rfl | (simp; done))) | with_reducible apply Blk.store3 | with_reducible apply Blk.store4 | (with_reducible apply Blk.farp; (first | omega | (simp <;> omega))) | with_reducible apply Blk.allocp | with_reducible apply Blk.drew | with_reducible apply Blk.drewN))) hB1; have cR1 := hR1.cell; have fR1 := hR1.frozen; have lR1 := hR1.lt; have mR1 := Nat.ne_of_gt lR1; have nR1 := Nat.ne_of_lt lR1)
    exact bodyPost_ret (v := .tuple #[.agg #[.int .i64 e, .int .i64 a, .int .i64 b], .bool true]) (by simp [results, Try.results41, go_sem, *]) rfl ⟨rfl, (by repeat (first | with_reducible exact Below.refl _ _ | with_reducible assumption | with_reducible apply Below.drew | with_reducible apply below_drewN | (with_reducible apply below_setp; (first | omega | (simp <;> omega))) | (with_reducible apply below_allocp; (first | omega | (simp <;> omega))) | (with_reducible refine below_viap (by assumption) ?_ ?_; (first | omega | (simp <;> omega)))))⟩
set_option maxRecDepth 100000 in
set_option maxHeartbeats 3200000 in
theorem idGood_any (d e a b : Int) (w : World) : Calls Try.prog 38 #[.int .i64 d, .agg #[.int .i64 e, .int .i64 a, .int .i64 b]] w fun x w' => x = .returned (.bool (idB d e a b)) ∧ Below w.heap.size w w' := by
  unfold idB
  have hL0 := Lib.hid (fun w => l1In_any e 1 10000 w)
  have hL1 := Lib.hid (fun w => l1In_any a 1 10000 w)
  have hL2 := Lib.hid (fun w => l1In_any b 0 (2 * a - 1) w)
  cases hc : isDisc d with
  | false =>
    rw [Bool.false_and]
    go_enter Try.func38, Try.ntmps38
    go_wp2_with (go_at_call 37; (with_reducible refine (rDisc_eq d false _ hc).mono ?_); rintro e v ⟨rfl, rfl⟩)
    go_ret
    exact ⟨rfl, (by repeat (first | with_reducible exact Below.refl _ _ | with_reducible assumption | with_reducible apply Below.drew | with_reducible apply below_drewN | (with_reducible apply below_setp; (first | omega | (simp <;> omega))) | (with_reducible apply below_allocp; (first | omega | (simp <;> omega))) | (with_reducible refine below_viap (by assumption) ?_ ?_; (first | omega | (simp <;> omega)))))⟩
  | true =>
    rw [Bool.true_and]
    have hc0 := hc
    unfold isDisc at hc0
    simp only [Bool.and_eq_true, decide_eq_true_eq] at hc0
    obtain ⟨q1, q2, _⟩ := hc0
    by_cases h0 : 1 ≤ e
    rotate_left
    · have d0 : decide (1 ≤ e) = false := decide_eq_false h0
      rw [d0, Bool.false_and]
      rw [d0] at hL0
      rw [Bool.false_and] at hL0
      go_enter Try.func38, Try.ntmps38
      go_wp2_with (first | (go_at_call 37; (with_reducible refine (rDisc_eq d true _ hc).mono ?_); rintro e v ⟨rfl, rfl⟩) | (go_at_call 86; (with_reducible refine (hL0.out _).mono ?_); rintro e v ⟨rfl, rfl⟩) | (go_at_call 86; (with_reducible refine (hL1.out _).mono ?_); rintro e v ⟨rfl, rfl⟩) | (go_at_call 86; (with_reducible refine (hL2.out _).mono ?_); rintro e v ⟨rfl, rfl⟩))
      go_ret
      exact ⟨rfl, (by repeat (first | with_reducible exact Below.refl _ _ | with_reducible assumption | with_reducible apply Below.drew | with_reducible apply below_drewN | (with_reducible apply below_setp; (first | omega | (simp <;> omega))) | (with_reducible apply below_allocp; (first | omega | (simp <;> omega))) | (with_reducible refine below_viap (by assumption) ?_ ?_; (first | omega | (simp <;> omega)))))⟩
    have d0 : decide (1 ≤ e) = true := decide_eq_true h0
    rw [d0, Bool.true_and]
    rw [d0] at hL0
    rw [Bool.true_and] at hL0
    by_cases h1 : e ≤ 10000
    rotate_left
    · have d1 : decide (e ≤ 10000) = false := decide_eq_false h1
      rw [d1, Bool.false_and]
      rw [d1] at hL0
      go_enter Try.func38, Try.ntmps38
      go_wp2_with (first | (go_at_call 37; (with_reducible refine (rDisc_eq d true _ hc).mono ?_); rintro e v ⟨rfl, rfl⟩) | (go_at_call 86; (with_reducible refine (hL0.out _).mono ?_); rintro e v ⟨rfl, rfl⟩) | (go_at_call 86; (with_reducible refine (hL1.out _).mono ?_); rintro e v ⟨rfl, rfl⟩) | (go_at_call 86; (with_reducible refine (hL2.out _).mono ?_); rintro e v ⟨rfl, rfl⟩))
      go_ret
      exact ⟨rfl, (by repeat (first | with_reducible exact Below.refl _ _ | with_reducible assumption | with_reducible apply Below.drew | with_reducible apply below_drewN | (with_reducible apply below_setp; (first | omega | (simp <;> omega))) | (with_reducible apply below_allocp; (first | omega | (simp <;> omega))) | (with_reducible refine below_viap (by assumption) ?_ ?_; (first | omega | (simp <;> omega)))))⟩
    have d1 : decide (e ≤ 10000) = true := decide_eq_true h1
    rw [d1, Bool.true_and]
    rw [d1] at hL0
    by_cases h2 : 1 ≤ a
    rotate_left
    · have d2 : decide (1 ≤ a) = false := decide_eq_false h2
      rw [d2, Bool.false_and]
      rw [d2] at hL1
      rw [Bool.false_and] at hL1
      go_enter Try.func38, Try.ntmps38
      go_wp2_with (first | (go_at_call 37; (with_reducible refine (rDisc_eq d true _ hc).mono ?_); rintro e v ⟨rfl, rfl⟩) | (go_at_call 86; (with_reducible refine (hL0.out _).mono ?_); rintro e v ⟨rfl, rfl⟩) | (go_at_call 86; (with_reducible refine (hL1.out _).mono ?_); rintro e v ⟨rfl, rfl⟩) | (go_at_call 86; (with_reducible refine (hL2.out _).mono ?_); rintro e v ⟨rfl, rfl⟩))
      go_ret
      exact ⟨rfl, (by repeat (first | with_reducible exact Below.refl _ _ | with_reducible assumption | with_reducible apply Below.drew | with_reducible apply below_drewN | (with_reducible apply below_setp; (first | omega | (simp <;> omega))) | (with_reducible apply below_allocp; (first | omega | (simp <;> omega))) | (with_reducible refine below_viap (by assumption) ?_ ?_; (first | omega | (simp <;> omega)))))⟩
    have d2 : decide (1 ≤ a) = true := decide_eq_true h2
    rw [d2, Bool.true_and]
    rw [d2] at hL1
    rw [Bool.true_and] at hL1
    by_cases h3 : a ≤ 10000
    rotate_left
    · have d3 : decide (a ≤ 10000) = false := decide_eq_false h3
      rw [d3, Bool.false_and]
      rw [d3] at hL1
      go_enter Try.func38, Try.ntmps38
      go_wp2_with (first | (go_at_call 37; (with_reducible refine (rDisc_eq d true _ hc).mono ?_); rintro e v ⟨rfl, rfl⟩) | (go_at_call 86; (with_reducible refine (hL0.out _).mono ?_); rintro e v ⟨rfl, rfl⟩) | (go_at_call 86; (with_reducible refine (hL1.out _).mono ?_); rintro e v ⟨rfl, rfl⟩) | (go_at_call 86; (with_reducible refine (hL2.out _).mono ?_); rintro e v ⟨rfl, rfl⟩))
      go_ret
      exact ⟨rfl, (by repeat (first | with_reducible exact Below.refl _ _ | with_reducible assumption | with_reducible apply Below.drew | with_reducible apply below_drewN | (with_reducible apply below_setp; (first | omega | (simp <;> omega))) | (with_reducible apply below_allocp; (first | omega | (simp <;> omega))) | (with_reducible refine below_viap (by assumption) ?_ ?_; (first | omega | (simp <;> omega)))))⟩
    have d3 : decide (a ≤ 10000) = true := decide_eq_true h3
    rw [d3, Bool.true_and]
    rw [d3] at hL1
    by_cases h4 : 0 ≤ b
    rotate_left
    · have d4 : decide (0 ≤ b) = false := decide_eq_false h4
      rw [d4, Bool.false_and]
      rw [d4] at hL2
      rw [Bool.false_and] at hL2
      go_enter Try.func38, Try.ntmps38
      go_wp2_with (first | (go_at_call 37; (with_reducible refine (rDisc_eq d true _ hc).mono ?_); rintro e v ⟨rfl, rfl⟩) | (go_at_call 86; (with_reducible refine (hL0.out _).mono ?_); rintro e v ⟨rfl, rfl⟩) | (go_at_call 86; (with_reducible refine (hL1.out _).mono ?_); rintro e v ⟨rfl, rfl⟩) | (go_at_call 86; (with_reducible refine (hL2.out _).mono ?_); rintro e v ⟨rfl, rfl⟩))
      go_ret
      exact ⟨rfl, (by repeat (first | with_reducible exact Below.refl _ _ | with_reducible assumption | with_reducible apply Below.drew | with_reducible apply below_drewN | (with_reducible apply below_setp; (first | omega | (simp <;> omega))) | (with_reducible apply below_allocp; (first | omega | (simp <;> omega))) | (with_reducible refine below_viap (by assumption) ?_ ?_; (first | omega | (simp <;> omega)))))⟩
    have d4 : decide (0 ≤ b) = true := decide_eq_true h4
    rw [d4, Bool.true_and]
    rw [d4] at hL2
    rw [Bool.true_and] at hL2
    by_cases h5 : b < 2 * a
    rotate_left
    · have d5 : decide (b < 2 * a) = false := decide_eq_false h5
      rw [d5, Bool.false_and]
      have d5b : decide (b ≤ 2 * a - 1) = false := decide_eq_false (by omega)
      rw [d5b] at hL2
      go_enter Try.func38, Try.ntmps38
      go_wp2_with (first | (go_at_call 37; (with_reducible refine (rDisc_eq d true _ hc).mono ?_); rintro e v ⟨rfl, rfl⟩) | (go_at_call 86; (with_reducible refine (hL0.out _).mono ?_); rintro e v ⟨rfl, rfl⟩) | (go_at_call 86; (with_reducible refine (hL1.out _).mono ?_); rintro e v ⟨rfl, rfl⟩) | (go_at_call 86; (with_reducible refine (hL2.out _).mono ?_); rintro e v ⟨rfl, rfl⟩))
      go_ret
      exact ⟨rfl, (by repeat (first | with_reducible exact Below.refl _ _ | with_reducible assumption | with_reducible apply Below.drew | with_reducible apply below_drewN | (with_reducible apply below_setp; (first | omega | (simp <;> omega))) | (with_reducible apply below_allocp; (first | omega | (simp <;> omega))) | (with_reducible refine below_viap (by assumption) ?_ ?_; (first | omega | (simp <;> omega)))))⟩
    have d5 : decide (b < 2 * a) = true := decide_eq_true h5
    rw [d5, Bool.true_and]
    have d5b : decide (b ≤ 2 * a - 1) = true := decide_eq_true (by omega)
    rw [d5b] at hL2
    have bb := mul_bd (a := b) (x := b) (A := 20000) (X := 20000) (by omega) (by omega) (by omega) (by omega)
    have bb0 : 0 ≤ b * b := Int.mul_nonneg h4 h4
    have hr1 : (b * b - d) % (4 * a) = idR d a b := rfl
    have hr2 : (b * b - d).tmod (4 * a) = idR d a b := by unfold idR; exact Int.tmod_eq_emod_of_nonneg (by omega)
    have hw1 : wrap64 (b * b) = b * b := IntWalk.wrap64_in _ (by omega)
    have hw2 : IntKind.i64.wrap (b * b) = b * b := IntWalk.i64_in _ (by omega)
    have hz : ¬ 4 * a = 0 := by omega
    have hz2 : (4 * a == 0) = false := beq_eq_false_iff_ne.2 hz
    have hw3 : wrap64 (b * b - d) = b * b - d := IntWalk.wrap64_in _ (by omega)
    generalize idR d a b = r at *
    go_enter Try.func38, Try.ntmps38
    go_wp2_with (first | (go_at_call 37; (with_reducible refine (rDisc_eq d true _ hc).mono ?_); rintro e v ⟨rfl, rfl⟩) | (go_at_call 86; (with_reducible refine (hL0.out _).mono ?_); rintro e v ⟨rfl, rfl⟩) | (go_at_call 86; (with_reducible refine (hL1.out _).mono ?_); rintro e v ⟨rfl, rfl⟩) | (go_at_call 86; (with_reducible refine (hL2.out _).mono ?_); rintro e v ⟨rfl, rfl⟩))
    go_ret
    exact ⟨by first | rfl | (rw [show decide (r = 0) = (r == 0) from (Bool.eq_iff_iff.2 (by simp))]; rfl), (by repeat (first | with_reducible exact Below.refl _ _ | with_reducible assumption | with_reducible apply Below.drew | with_reducible apply below_drewN | (with_reducible apply below_setp; (first | omega | (simp <;> omega))) | (with_reducible apply below_allocp; (first | omega | (simp <;> omega))) | (with_reducible refine below_viap (by assumption) ?_ ?_; (first | omega | (simp <;> omega)))))⟩
set_option maxRecDepth 100000 in
set_option maxHeartbeats 3200000 in
theorem idIf_any (d e a b : Int) (w : World) : Calls Try.prog 43 #[.int .i64 d, .agg #[.int .i64 e, .int .i64 a, .int .i64 b]] w fun x w' => x = .returned (.tuple #[.agg (if idB d e a b = true then #[.int .i64 e, .int .i64 a, .int .i64 b] else #[.int .i64 0, .int .i64 0, .int .i64 0]), .bool (idB d e a b)]) ∧ Below w.heap.size w w' := by
  have hI := Lib.hid (fun w => idGood_any d e a b w)
  cases hx : idB d e a b with
  | false =>
    rw [hx] at hI
    rw [if_neg (by simp)]
    go_enter Try.func43, Try.ntmps43
    go_wp2_with (go_at_call 38; (with_reducible refine (hI.out _).mono ?_); rintro e v1 ⟨rfl, hB1⟩; have hZ1 := hB1.size; (try simp at hZ1); (try have zl1 : w.heap.size < v1.heap.size := by omega); (try have ze1 : w.heap.size ≤ v1.heap.size := by omega); (try have zn1 : ¬ w.heap.size = v1.heap.size := by omega); (try have zm1 : ¬ v1.heap.size = w.heap.size := by omega); have hA1 : Blk v1 (w.heap.size) 25 #[.int .i64 e, .int .i64 a, .int .i64 b] := Blk.call (by (repeat (first | with_reducible assumption | (with_reducible apply Blk.new_at; (first | rfl | (simp; done))) | with_reducible apply Blk.store3 | with_reducible apply Blk.store4 | (with_reducible apply Blk.farp; (first | omega | (simp <;> omega))) | with_reducible apply Blk.allocp | with_reducible apply Blk.drew | with_reducible apply Blk.drewN))) hB1; have cA1 := hA1.cell; have fA1 := hA1.frozen; have lA1 := hA1.lt; have mA1 := Nat.ne_of_gt lA1; have nA1 := Nat.ne_of_lt lA1; have hR1 : Blk v1 (w.heap.size + 1) 25 #[.int .i64 0, .int .i64 0, .int .i64 0] := Blk.call (by (repeat (first | with_reducible assumption | (with_reducible apply Blk.new_at; (first | rfl | (simp; done))) | with_reducible apply Blk.store3 | with_reducible apply Blk.store4 | (with_reducible apply Blk.farp; (first | omega | (simp <;> omega))) | with_reducible apply Blk.allocp | with_reducible apply Blk.drew | with_reducible apply Blk.drewN))) hB1; have cR1 := hR1.cell; have fR1 := hR1.frozen; have lR1 := hR1.lt; have mR1 := Nat.ne_of_gt lR1; have nR1 := Nat.ne_of_lt lR1)
    exact bodyPost_ret (v := .tuple #[.agg #[.int .i64 0, .int .i64 0, .int .i64 0], .bool false]) (by simp [results, Try.results43, go_sem, *]) rfl ⟨rfl, (by repeat (first | with_reducible exact Below.refl _ _ | with_reducible assumption | with_reducible apply Below.drew | with_reducible apply below_drewN | (with_reducible apply below_setp; (first | omega | (simp <;> omega))) | (with_reducible apply below_allocp; (first | omega | (simp <;> omega))) | (with_reducible refine below_viap (by assumption) ?_ ?_; (first | omega | (simp <;> omega)))))⟩
  | true =>
    rw [hx] at hI
    rw [if_pos rfl]
    go_enter Try.func43, Try.ntmps43
    go_wp2_with (go_at_call 38; (with_reducible refine (hI.out _).mono ?_); rintro e v1 ⟨rfl, hB1⟩; have hZ1 := hB1.size; (try simp at hZ1); (try have zl1 : w.heap.size < v1.heap.size := by omega); (try have ze1 : w.heap.size ≤ v1.heap.size := by omega); (try have zn1 : ¬ w.heap.size = v1.heap.size := by omega); (try have zm1 : ¬ v1.heap.size = w.heap.size := by omega); have hA1 : Blk v1 (w.heap.size) 25 #[.int .i64 e, .int .i64 a, .int .i64 b] := Blk.call (by (repeat (first | with_reducible assumption | (with_reducible apply Blk.new_at; (first | rfl | (simp; done))) | with_reducible apply Blk.store3 | with_reducible apply Blk.store4 | (with_reducible apply Blk.farp; (first | omega | (simp <;> omega))) | with_reducible apply Blk.allocp | with_reducible apply Blk.drew | with_reducible apply Blk.drewN))) hB1; have cA1 := hA1.cell; have fA1 := hA1.frozen; have lA1 := hA1.lt; have mA1 := Nat.ne_of_gt lA1; have nA1 := Nat.ne_of_lt lA1; have hR1 : Blk v1 (w.heap.size + 1) 25 #[.int .i64 0, .int .i64 0, .int .i64 0] := Blk.call (by (repeat (first | with_reducible assumption | (with_reducible apply Blk.new_at; (first | rfl | (simp; done))) | with_reducible apply Blk.store3 | with_reducible apply Blk.store4 | (with_reducible apply Blk.farp; (first | omega | (simp <;> omega))) | with_reducible apply Blk.allocp | with_reducible apply Blk.drew | with_reducible apply Blk.drewN))) hB1; have cR1 := hR1.cell; have fR1 := hR1.frozen; have lR1 := hR1.lt; have mR1 := Nat.ne_of_gt lR1; have nR1 := Nat.ne_of_lt lR1)
    exact bodyPost_ret (v := .tuple #[.agg #[.int .i64 e, .int .i64 a, .int .i64 b], .bool true]) (by simp [results, Try.results43, go_sem, *]) rfl ⟨rfl, (by repeat (first | with_reducible exact Below.refl _ _ | with_reducible assumption | with_reducible apply Below.drew | with_reducible apply below_drewN | (with_reducible apply below_setp; (first | omega | (simp <;> omega))) | (with_reducible apply below_allocp; (first | omega | (simp <;> omega))) | (with_reducible refine below_viap (by assumption) ?_ ?_; (first | omega | (simp <;> omega)))))⟩
end Go.Proofs.Ytjjkndgokdofdaa
