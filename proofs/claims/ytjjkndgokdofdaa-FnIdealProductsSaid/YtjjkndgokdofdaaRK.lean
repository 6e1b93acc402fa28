/- Contracts: the product of ideals, of the program. -/
import Derived.Test.YtjjkndgokdofdaaRJ
namespace Go.Proofs.Ytjjkndgokdofdaa
open Go.RowKit

/-- The list of the four products of generators. -/
def iL (a b a' b' X Y : Int) : List (Int × Int) := [(2 * a * a', 0), (-a * b', a), (-a' * b, a'), (X, Y)]
set_option maxRecDepth 100000 in
set_option maxHeartbeats 6400000 in
theorem idealTimes_any (d e1 a b e2 a' b' X Y A e t : Int) (w : World) (hd : -400000000 ≤ d ∧ d ≤ 400000000) (h1 : 1 ≤ e1 ∧ e1 ≤ 10000) (h2 : 1 ≤ e2 ∧ e2 ≤ 10000) (ha : 1 ≤ a ∧ a ≤ 10000) (ha' : 1 ≤ a' ∧ a' ≤ 10000)
    (hb : 0 ≤ b ∧ b ≤ 20000) (hb' : 0 ≤ b' ∧ b' ≤ 20000) (hX : b * b' + d = 2 * X) (hY : b + b' = -(2 * Y)) (hsp : SpEq [(2 * e * A, 0), (e * t, e)] (iL a b a' b' X Y)) (hA : 0 < A) (he : 0 < e) (he2 : e ≤ 10000) :
    Calls Try.prog 42 #[.int .i64 d, .agg #[.int .i64 e1, .int .i64 a, .int .i64 b], .agg #[.int .i64 e2, .int .i64 a', .int .i64 b']] w fun x w' =>
      x = .returned (.agg #[.int .i64 (e * (e1 * e2)), .int .i64 A, .int .i64 ((-t) % (2 * A))]) ∧ Below w.heap.size w w' := by
  have m1 := mul_bd (a := a) (x := a') (A := 10000) (X := 10000) (by omega) (by omega) (by omega) (by omega)
  have m2 := mul_bd (a := a) (x := b') (A := 10000) (X := 20000) (by omega) (by omega) (by omega) (by omega)
  have m3 := mul_bd (a := a') (x := b) (A := 10000) (X := 20000) (by omega) (by omega) (by omega) (by omega)
  have m4 := mul_bd (a := b) (x := b') (A := 20000) (X := 20000) (by omega) (by omega) (by omega) (by omega)
  have m5 := mul_bd (a := e1) (x := e2) (A := 10000) (X := 10000) (by omega) (by omega) (by omega) (by omega)
  have m6 := mul_bd (a := e) (x := e1 * e2) (A := 10000) (X := 100000000) (by omega) (by omega) (by omega) (by omega)
  have p0 : 0 < a * a' := Int.mul_pos (by omega) (by omega)
  have hI := Lib.hid (fun (v : Value) B w ho => idealOf_any (2 * a * a') [(-a * b', a), (-a' * b, a'), (X, Y)] A e t v B w ⟨by rw [Int.mul_assoc]; omega, by rw [Int.mul_assoc]; omega⟩ (by
    intro p hp
    simp only [List.mem_cons, List.not_mem_nil, or_false] at hp
    rcases hp with rfl | rfl | rfl
    · exact ⟨by simp only [Int.neg_mul]; omega, by simp only; omega⟩
    · exact ⟨by simp only [Int.neg_mul]; omega, by simp only; omega⟩
    · exact ⟨by simp only; omega, by simp only; omega⟩) (by simp) hsp hA he ho)
  have w1 : wrap64 (2 * a) = 2 * a := IntWalk.wrap64_in _ (by omega)
  have w2 : wrap64 (2 * a * a') = 2 * a * a' := IntWalk.wrap64_in _ (by rw [Int.mul_assoc]; omega)
  have i1 : IntKind.i64.wrap (-a) = -a := IntWalk.i64_in _ (by omega)
  have i2 : IntKind.i64.wrap (-a') = -a' := IntWalk.i64_in _ (by omega)
  have i3 : IntKind.i64.wrap (-(b + b')) = -(b + b') := IntWalk.i64_in _ (by omega)
  have w3 : wrap64 (-a * b') = -a * b' := IntWalk.wrap64_in _ (by rw [Int.neg_mul]; omega)
  have w4 : wrap64 (-a' * b) = -a' * b := IntWalk.wrap64_in _ (by rw [Int.neg_mul]; omega)
  have w5 : wrap64 (b * b') = b * b' := IntWalk.wrap64_in _ (by omega)
  have w6 : wrap64 (b * b' + d) = b * b' + d := IntWalk.wrap64_in _ (by omega)
  have w7 : wrap64 (b + b') = b + b' := IntWalk.wrap64_in _ (by omega)
  have w8 : wrap64 (e1 * e2) = e1 * e2 := IntWalk.wrap64_in _ (by omega)
  have w9 : wrap64 (e * (e1 * e2)) = e * (e1 * e2) := IntWalk.wrap64_in _ (by omega)
  have q1 : (b * b' + d).tdiv 2 = X := by rw [hX]; exact Int.mul_tdiv_cancel_left _ (by decide)
  have q2 : (-(b + b')).tdiv 2 = Y := by rw [hY, Int.neg_neg]; exact Int.mul_tdiv_cancel_left _ (by decide)
  have q3 : wrap64 X = X := IntWalk.wrap64_in _ (by omega)
  have q4 : wrap64 Y = Y := IntWalk.wrap64_in _ (by omega)
  clear hsp m1 m2 m3 m4 m5 m6 hX hY hd
  go_enter Try.func42, Try.ntmps42
  go_wp2_with fail
  refine (hI.out _ (w.heap.size + 1 + 1 + 1) _ (own_blk8 (Blk.new_at (by simp)))).mono ?_
  rintro e2 v1 ⟨rfl, hB1⟩
  have hZ1 := hB1.size
  (try simp at hZ1)
  have hX1 : Blk v1 w.heap.size 25 #[.int .i64 e1, .int .i64 a, .int .i64 b] := Blk.call (by (repeat (first | with_reducible assumption | (with_reducible apply Blk.new_at; (first | rfl | (simp; done))) | with_reducible apply Blk.store3 | with_reducible apply Blk.store4 | (with_reducible apply Blk.farp; (first | omega | (simp <;> omega))) | with_reducible apply Blk.allocp | with_reducible apply Blk.drew | with_reducible apply Blk.drewN))) hB1
  have hY1 : Blk v1 (w.heap.size + 1) 25 #[.int .i64 e2, .int .i64 a', .int .i64 b'] := Blk.call (by (repeat (first | with_reducible assumption | (with_reducible apply Blk.new_at; (first | rfl | (simp; done))) | with_reducible apply Blk.store3 | with_reducible apply Blk.store4 | (with_reducible apply Blk.farp; (first | omega | (simp <;> omega))) | with_reducible apply Blk.allocp | with_reducible apply Blk.drew | with_reducible apply Blk.drewN))) hB1
  have hR1 : Blk v1 (w.heap.size + 1 + 1) 25 #[.int .i64 0, .int .i64 0, .int .i64 0] := Blk.call (by (repeat (first | with_reducible assumption | (with_reducible apply Blk.new_at; (first | rfl | (simp; done))) | with_reducible apply Blk.store3 | with_reducible apply Blk.store4 | (with_reducible apply Blk.farp; (first | omega | (simp <;> omega))) | with_reducible apply Blk.allocp | with_reducible apply Blk.drew | with_reducible apply Blk.drewN))) hB1
  have cX1 := hX1.cell; have fX1 := hX1.frozen; have lX1 := hX1.lt; have mX1 := Nat.ne_of_gt lX1; have nX1 := Nat.ne_of_lt lX1
  have cY1 := hY1.cell; have fY1 := hY1.frozen; have lY1 := hY1.lt; have mY1 := Nat.ne_of_gt lY1; have nY1 := Nat.ne_of_lt lY1
  have cR1 := hR1.cell; have fR1 := hR1.frozen; have lR1 := hR1.lt; have mR1 := Nat.ne_of_gt lR1; have nR1 := Nat.ne_of_lt lR1
  go_wp2
  exact bodyPost_ret (v := .agg #[.int .i64 (e * (e1 * e2)), .int .i64 A, .int .i64 ((-t) % (2 * A))]) (by simp [results, Try.results42, go_sem, *]) rfl ⟨rfl, (by repeat (first | with_reducible exact Below.refl _ _ | with_reducible assumption | with_reducible apply Below.drew | with_reducible apply below_drewN | (with_reducible apply below_setp; (first | omega | (simp <;> omega))) | (with_reducible apply below_allocp; (first | omega | (simp <;> omega))) | (with_reducible refine below_viap (by assumption) ?_ ?_; (first | omega | (simp <;> omega)))))⟩
/-- What the product of two ideals is, but for the scales. -/
structure PdR (d a b a' b' e A t : Int) : Prop where
  A0 : 0 < A
  e0 : 0 < e
  e1 : e ≤ 10000
  sp : ∃ X Y, b * b' + d = 2 * X ∧ b + b' = -(2 * Y) ∧ SpEq [(2 * e * A, 0), (e * t, e)] (iL a b a' b' X Y)
theorem IdV.d2 {d e a b : Int} (h : IdV d e a b) : -2000 ≤ d ∧ d ≤ -3 := by
  have := h.dc
  unfold isDisc at this
  simp only [Bool.and_eq_true, decide_eq_true_eq] at this
  exact ⟨this.1, this.2.1⟩
set_option maxRecDepth 100000 in
set_option maxHeartbeats 3200000 in
theorem areIdeals_any (d e1 a b e2 a' b' : Int) (w : World) : Calls Try.prog 40 #[.int .i64 d, .agg #[.int .i64 e1, .int .i64 a, .int .i64 b], .agg #[.int .i64 e2, .int .i64 a', .int .i64 b']] w fun x w' => x = .returned (.bool (idB d e1 a b && idB d e2 a' b')) ∧ Below w.heap.size w w' := by
  have hI := Lib.hid (fun w => isIdeal_any d e1 a b w)
  have hJ := Lib.hid (fun w => isIdeal_any d e2 a' b' w)
  cases hx : idB d e1 a b with
  | false =>
    rw [hx] at hI
    go_enter Try.func40, Try.ntmps40
    go_wp2_with (go_at_call 45; (with_reducible refine (hI.out _).mono ?_); rintro e v1 ⟨rfl, hB1⟩; have hZ1 := hB1.size; (try simp at hZ1); (try have zl1 : w.heap.size < v1.heap.size := by omega); (try have ze1 : w.heap.size ≤ v1.heap.size := by omega); (try have zn1 : ¬ w.heap.size = v1.heap.size := by omega); (try have zm1 : ¬ v1.heap.size = w.heap.size := by omega); have hX1 : Blk v1 (w.heap.size) 25 #[.int .i64 e1, .int .i64 a, .int .i64 b] := Blk.call (by (repeat (first | with_reducible assumption | (with_reducible apply Blk.new_at; (first | rfl | (simp; done))) | with_reducible apply Blk.store3 | with_reducible apply Blk.store4 | (with_reducible apply Blk.farp; (first | omega | (simp <;> omega))) | with_reducible apply Blk.allocp | with_reducible apply Blk.drew | with_reducible apply Blk.drewN))) hB1; have cX1 := hX1.cell; have fX1 := hX1.frozen; have lX1 := hX1.lt; have mX1 := Nat.ne_of_gt lX1; have nX1 := Nat.ne_of_lt lX1; have hY1 : Blk v1 (w.heap.size + 1) 25 #[.int .i64 e2, .int .i64 a', .int .i64 b'] := Blk.call (by (repeat (first | with_reducible assumption | (with_reducible apply Blk.new_at; (first | rfl | (simp; done))) | with_reducible apply Blk.store3 | with_reducible apply Blk.store4 | (with_reducible apply Blk.farp; (first | omega | (simp <;> omega))) | with_reducible apply Blk.allocp | with_reducible apply Blk.drew | with_reducible apply Blk.drewN))) hB1; have cY1 := hY1.cell; have fY1 := hY1.frozen; have lY1 := hY1.lt; have mY1 := Nat.ne_of_gt lY1; have nY1 := Nat.ne_of_lt lY1)
    go_ret
    exact ⟨rfl, (by repeat (first | with_reducible exact Below.refl _ _ | with_reducible assumption | with_reducible apply Below.drew | with_reducible apply below_drewN | (with_reducible apply below_setp; (first | omega | (simp <;> omega))) | (with_reducible apply below_allocp; (first | omega | (simp <;> omega))) | (with_reducible refine below_viap (by assumption) ?_ ?_; (first | omega | (simp <;> omega)))))⟩
  | true =>
    rw [hx] at hI
    go_enter Try.func40, Try.ntmps40
    go_wp2_with (first | (go_at_call 45; (with_reducible refine (hI.out _).mono ?_); rintro e v1 ⟨rfl, hB1⟩; have hZ1 := hB1.size; (try simp at hZ1); (try have zl1 : w.heap.size < v1.heap.size := by omega); (try have ze1 : w.heap.size ≤ v1.heap.size := by omega); (try have zn1 : ¬ w.heap.size = v1.heap.size := by omega); (try have zm1 : ¬ v1.heap.size = w.heap.size := by omega); have hX1 : Blk v1 (w.heap.size) 25 #[.int .i64 e1, .int .i64 a, .int .i64 b] := Blk.call (by (repeat (first | with_reducible assumption | (with_reducible apply Blk.new_at; (first | rfl | (simp; done))) | with_reducible apply Blk.store3 | with_reducible apply Blk.store4 | (with_reducible apply Blk.farp; (first | omega | (simp <;> omega))) | with_reducible apply Blk.allocp | with_reducible apply Blk.drew | with_reducible apply Blk.drewN))) hB1; have cX1 := hX1.cell; have fX1 := hX1.frozen; have lX1 := hX1.lt; have mX1 := Nat.ne_of_gt lX1; have nX1 := Nat.ne_of_lt lX1; have hY1 : Blk v1 (w.heap.size + 1) 25 #[.int .i64 e2, .int .i64 a', .int .i64 b'] := Blk.call (by (repeat (first | with_reducible assumption | (with_reducible apply Blk.new_at; (first | rfl | (simp; done))) | with_reducible apply Blk.store3 | with_reducible apply Blk.store4 | (with_reducible apply Blk.farp; (first | omega | (simp <;> omega))) | with_reducible apply Blk.allocp | with_reducible apply Blk.drew | with_reducible apply Blk.drewN))) hB1; have cY1 := hY1.cell; have fY1 := hY1.frozen; have lY1 := hY1.lt; have mY1 := Nat.ne_of_gt lY1; have nY1 := Nat.ne_of_lt lY1) | (go_at_call 45; (with_reducible refine (hJ.out _).mono ?_); rintro e v2 ⟨rfl, hB2⟩; have hZ2 := hB2.size; (try simp at hZ2); (try have zl2 : w.heap.size < v2.heap.size := by omega); (try have ze2 : w.heap.size ≤ v2.heap.size := by omega); (try have zn2 : ¬ w.heap.size = v2.heap.size := by omega); (try have zm2 : ¬ v2.heap.size = w.heap.size := by omega); have hX2 : Blk v2 (w.heap.size) 25 #[.int .i64 e1, .int .i64 a, .int .i64 b] := Blk.call (by (repeat (first | with_reducible assumption | (with_reducible apply Blk.new_at; (first | rfl | (simp; done))) | with_reducible apply Blk.store3 | with_reducible apply Blk.store4 | (with_reducible apply Blk.farp; (first | omega | (simp <;> omega))) | with_reducible apply Blk.allocp | with_reducible apply Blk.drew | with_reducible apply Blk.drewN))) hB2; have cX2 := hX2.cell; have fX2 := hX2.frozen; have lX2 := hX2.lt; have mX2 := Nat.ne_of_gt lX2; have nX2 := Nat.ne_of_lt lX2; have hY2 : Blk v2 (w.heap.size + 1) 25 #[.int .i64 e2, .int .i64 a', .int .i64 b'] := Blk.call (by (repeat (first | with_reducible assumption | (with_reducible apply Blk.new_at; (first | rfl | (simp; done))) | with_reducible apply Blk.store3 | with_reducible apply Blk.store4 | (with_reducible apply Blk.farp; (first | omega | (simp <;> omega))) | with_reducible apply Blk.allocp | with_reducible apply Blk.drew | with_reducible apply Blk.drewN))) hB2; have cY2 := hY2.cell; have fY2 := hY2.frozen; have lY2 := hY2.lt; have mY2 := Nat.ne_of_gt lY2; have nY2 := Nat.ne_of_lt lY2))
    go_ret
    exact ⟨rfl, (by repeat (first | with_reducible exact Below.refl _ _ | with_reducible assumption | with_reducible apply Below.drew | with_reducible apply below_drewN | (with_reducible apply below_setp; (first | omega | (simp <;> omega))) | (with_reducible apply below_allocp; (first | omega | (simp <;> omega))) | (with_reducible refine below_viap (by assumption) ?_ ?_; (first | omega | (simp <;> omega)))))⟩
set_option maxRecDepth 100000 in
set_option maxHeartbeats 3200000 in
theorem implIP_no (d e1 a b e2 a' b' : Int) (w : World) (h : (idB d e1 a b && idB d e2 a' b') = false) : Calls Try.prog 8 #[.int .i64 d, .agg #[.int .i64 e1, .int .i64 a, .int .i64 b], .agg #[.int .i64 e2, .int .i64 a', .int .i64 b']] w fun x w' => x = .returned (.tuple #[.agg #[.int .i64 0, .int .i64 0, .int .i64 0], .bool false]) ∧ Below w.heap.size w w' := by
  have hI := Lib.hid (fun w => areIdeals_any d e1 a b e2 a' b' w)
  rw [h] at hI
  clear h
  go_enter Try.func8, Try.ntmps8
  go_wp2_with (go_at_call 40; (with_reducible refine (hI.out _).mono ?_); rintro e v1 ⟨rfl, hB1⟩; have hZ1 := hB1.size; (try simp at hZ1); (try have zl1 : w.heap.size < v1.heap.size := by omega); (try have ze1 : w.heap.size ≤ v1.heap.size := by omega); (try have zn1 : ¬ w.heap.size = v1.heap.size := by omega); (try have zm1 : ¬ v1.heap.size = w.heap.size := by omega); have hX1 : Blk v1 (w.heap.size) 25 #[.int .i64 e1, .int .i64 a, .int .i64 b] := Blk.call (by (repeat (first | with_reducible assumption | (with_reducible apply Blk.new_at; (first | rfl | (simp; done))) | with_reducible apply Blk.store3 | with_reducible apply Blk.store4 | (with_reducible apply Blk.farp; (first | omega | (simp <;> omega))) | with_reducible apply Blk.allocp | with_reducible apply Blk.drew | with_reducible apply Blk.drewN))) hB1; have cX1 := hX1.cell; have fX1 := hX1.frozen; have lX1 := hX1.lt; have mX1 := Nat.ne_of_gt lX1; have nX1 := Nat.ne_of_lt lX1; have hY1 : Blk v1 (w.heap.size + 1) 25 #[.int .i64 e2, .int .i64 a', .int .i64 b'] := Blk.call (by (repeat (first | with_reducible assumption | (with_reducible apply Blk.new_at; (first | rfl | (simp; done))) | with_reducible apply Blk.store3 | with_reducible apply Blk.store4 | (with_reducible apply Blk.farp; (first | omega | (simp <;> omega))) | with_reducible apply Blk.allocp | with_reducible apply Blk.drew | with_reducible apply Blk.drewN))) hB1; have cY1 := hY1.cell; have fY1 := hY1.frozen; have lY1 := hY1.lt; have mY1 := Nat.ne_of_gt lY1; have nY1 := Nat.ne_of_lt lY1; have hR1 : Blk v1 (w.heap.size + 1 + 1) 25 #[.int .i64 0, .int .i64 0, .int .i64 0] := Blk.call (by (repeat (first | with_reducible assumption | (with_reducible apply Blk.new_at; (first | rfl | (simp; done))) | with_reducible apply Blk.store3 | with_reducible apply Blk.store4 | (with_reducible apply Blk.farp; (first | omega | (simp <;> omega))) | with_reducible apply Blk.allocp | with_reducible apply Blk.drew | with_reducible apply Blk.drewN))) hB1; have cR1 := hR1.cell; have fR1 := hR1.frozen; have lR1 := hR1.lt; have mR1 := Nat.ne_of_gt lR1; have nR1 := Nat.ne_of_lt lR1)
  exact bodyPost_ret (v := .tuple #[.agg #[.int .i64 0, .int .i64 0, .int .i64 0], .bool false]) (by simp [results, Try.results8, go_sem, *]) rfl ⟨rfl, (by repeat (first | with_reducible exact Below.refl _ _ | with_reducible assumption | with_reducible apply Below.drew | with_reducible apply below_drewN | (with_reducible apply below_setp; (first | omega | (simp <;> omega))) | (with_reducible apply below_allocp; (first | omega | (simp <;> omega))) | (with_reducible refine below_viap (by assumption) ?_ ?_; (first | omega | (simp <;> omega)))))⟩
set_option maxRecDepth 100000 in
set_option maxHeartbeats 3200000 in
theorem implIP_any (d e1 a b e2 a' b' e A t : Int) (w : World) (hx : IdV d e1 a b) (hy : IdV d e2 a' b') (hp : PdR d a b a' b' e A t) : Calls Try.prog 8 #[.int .i64 d, .agg #[.int .i64 e1, .int .i64 a, .int .i64 b], .agg #[.int .i64 e2, .int .i64 a', .int .i64 b']] w fun x w' =>
    x = .returned (.tuple #[.agg (if idB d (e * (e1 * e2)) A ((-t) % (2 * A)) = true then #[.int .i64 (e * (e1 * e2)), .int .i64 A, .int .i64 ((-t) % (2 * A))] else #[.int .i64 0, .int .i64 0, .int .i64 0]), .bool (idB d (e * (e1 * e2)) A ((-t) % (2 * A)))]) ∧ Below w.heap.size w w' := by
  have hI := Lib.hid (fun w => areIdeals_any d e1 a b e2 a' b' w)
  rw [idB_iff.2 hx, idB_iff.2 hy] at hI
  obtain ⟨X, Y, p1, p2, p3⟩ := hp.sp
  have h1 := hx.d2; have h2 := hx.e1; have h3 := hx.e2; have h4 := hy.e1; have h5 := hy.e2; have h6 := hx.a1; have h7 := hx.a2; have h8 := hy.a1; have h9 := hy.a2
  have g1 := hx.b0; have g2 := hx.b2; have g3 := hy.b0; have g4 := hy.b2
  have hT := Lib.hid (fun w => idealTimes_any d e1 a b e2 a' b' X Y A e t w (by omega) ⟨h2, h3⟩ ⟨h4, h5⟩ ⟨h6, h7⟩ ⟨h8, h9⟩ (by omega) (by omega) p1 p2 p3 hp.A0 hp.e0 hp.e1)
  clear p1 p2 p3 h1 h2 h3 h4 h5 h6 h7 h8 h9 g1 g2 g3 g4 hx hy hp
  generalize e * (e1 * e2) = E at *
  generalize (-t) % (2 * A) = R at *
  have hV := Lib.hid (fun w => validIdeal_any d E A R w)
  obtain ⟨cs, hcs⟩ : ∃ x : Array Value, x = (if idB d E A R = true then #[.int .i64 E, .int .i64 A, .int .i64 R] else #[.int .i64 0, .int .i64 0, .int .i64 0]) := ⟨_, rfl⟩
  rw [← hcs] at hV ⊢
  have hq : ∃ q1 q2 q3 : Int, cs = #[.int .i64 q1, .int .i64 q2, .int .i64 q3] := by
    rw [hcs]
    split
    · exact ⟨_, _, _, rfl⟩
    · exact ⟨_, _, _, rfl⟩
  obtain ⟨q1, q2, q3, hq⟩ := hq
  clear hcs
  subst hq
  generalize idB d E A R = bo at *
  go_enter Try.func8, Try.ntmps8
  go_wp2_with (first | (go_at_call 40; (with_reducible refine (hI.out _).mono ?_); rintro e v1 ⟨rfl, hB1⟩; have hZ1 := hB1.size; (try simp at hZ1); (try have zl1 : w.heap.size < v1.heap.size := by omega); (try have ze1 : w.heap.size ≤ v1.heap.size := by omega); (try have zn1 : ¬ w.heap.size = v1.heap.size := by omega); (try have zm1 : ¬ v1.heap.size = w.heap.size := by omega); have hX1 : Blk v1 (w.heap.size) 25 #[.int .i64 e1, .int .i64 a, .int .i64 b] := Blk.call (by (repeat (first | with_reducible assumption | (with_reducible apply Blk.new_at; (first | rfl | (simp; done))) | with_reducible apply Blk.store3 | with_reducible apply Blk.store4 | (with_reducible apply Blk.farp; (first | omega | (simp <;> omega))) | with_reducible apply Blk.allocp | with_reducible apply Blk.drew | with_reducible apply Blk.drewN))) hB1; have cX1 := hX1.cell; have fX1 := hX1.frozen; have lX1 := hX1.lt; have mX1 := Nat.ne_of_gt lX1; have nX1 := Nat.ne_of_lt lX1; have hY1 : Blk v1 (w.heap.size + 1) 25 #[.int .i64 e2, .int .i64 a', .int .i64 b'] := Blk.call (by (repeat (first | with_reducible assumption | (with_reducible apply Blk.new_at; (first | rfl | (simp; done))) | with_reducible apply Blk.store3 | with_reducible apply Blk.store4 | (with_reducible apply Blk.farp; (first | omega | (simp <;> omega))) | with_reducible apply Blk.allocp | with_reducible apply Blk.drew | with_reducible apply Blk.drewN))) hB1; have cY1 := hY1.cell; have fY1 := hY1.frozen; have lY1 := hY1.lt; have mY1 := Nat.ne_of_gt lY1; have nY1 := Nat.ne_of_lt lY1; have hR1 : Blk v1 (w.heap.size + 1 + 1) 25 #[.int .i64 0, .int .i64 0, .int .i64 0] := Blk.call (by (repeat (first | with_reducible assumption | (with_reducible apply Blk.new_at; (first | rfl | (simp; done))) | with_reducible apply Blk.store3 | with_reducible apply Blk.store4 | (with_reducible apply Blk.farp; (first | omega | (simp <;> omega))) | with_reducible apply Blk.allocp | with_reducible apply Blk.drew | with_reducible apply Blk.drewN))) hB1; have cR1 := hR1.cell; have fR1 := hR1.frozen; have lR1 := hR1.lt; have mR1 := Nat.ne_of_gt lR1; have nR1 := Nat.ne_of_lt lR1) | (go_at_call 42; (with_reducible refine (hT.out _).mono ?_); rintro e v2 ⟨rfl, hB2⟩; have hZ2 := hB2.size; (try simp at hZ2); (try have zl2 : w.heap.size < v2.heap.size := by omega); (try have ze2 : w.heap.size ≤ v2.heap.size := by omega); (try have zn2 : ¬ w.heap.size = v2.heap.size := by omega); (try have zm2 : ¬ v2.heap.size = w.heap.size := by omega); have hX2 : Blk v2 (w.heap.size) 25 #[.int .i64 e1, .int .i64 a, .int .i64 b] := Blk.call (by (repeat (first | with_reducible assumption | (with_reducible apply Blk.new_at; (first | rfl | (simp; done))) | with_reducible apply Blk.store3 | with_reducible apply Blk.store4 | (with_reducible apply Blk.farp; (first | omega | (simp <;> omega))) | with_reducible apply Blk.allocp | with_reducible apply Blk.drew | with_reducible apply Blk.drewN))) hB2; have cX2 := hX2.cell; have fX2 := hX2.frozen; have lX2 := hX2.lt; have mX2 := Nat.ne_of_gt lX2; have nX2 := Nat.ne_of_lt lX2; have hY2 : Blk v2 (w.heap.size + 1) 25 #[.int .i64 e2, .int .i64 a', .int .i64 b'] := Blk.call (by (repeat (first | with_reducible assumption | (with_reducible apply Blk.new_at; (first | rfl | (simp; done))) | with_reducible apply Blk.store3 | with_reducible apply Blk.store4 | (with_reducible apply Blk.farp; (first | omega | (simp <;> omega))) | with_reducible apply Blk.allocp | with_reducible apply Blk.drew | with_reducible apply Blk.drewN))) hB2; have cY2 := hY2.cell; have fY2 := hY2.frozen; have lY2 := hY2.lt; have mY2 := Nat.ne_of_gt lY2; have nY2 := Nat.ne_of_lt lY2; have hR2 : Blk v2 (w.heap.size + 1 + 1) 25 #[.int .i64 0, .int .i64 0, .int .i64 0] := Blk.call (by (repeat (first | with_reducible assumption | (with_reducible apply Blk.new_at; (first | rfl | (simp; done))) | with_reducible apply Blk.store3 | with_reducible apply Blk.store4 | (with_reducible apply Blk.farp; (first | omega | (simp <;> omega))) | with_reducible apply Blk.allocp | with_reducible apply Blk.drew | with_reducible apply Blk.drewN))) hB2; have cR2 := hR2.cell; have fR2 := hR2.frozen; have lR2 := hR2.lt; have mR2 := Nat.ne_of_gt lR2; have nR2 := Nat.ne_of_lt lR2) | (go_at_call 41; (with_reducible refine (hV.out _).mono ?_); rintro e v3 ⟨rfl, hB3⟩; have hZ3 := hB3.size; (try simp at hZ3); (try have zl3 : w.heap.size < v3.heap.size := by omega); (try have ze3 : w.heap.size ≤ v3.heap.size := by omega); (try have zn3 : ¬ w.heap.size = v3.heap.size := by omega); (try have zm3 : ¬ v3.heap.size = w.heap.size := by omega); have hX3 : Blk v3 (w.heap.size) 25 #[.int .i64 e1, .int .i64 a, .int .i64 b] := Blk.call (by (repeat (first | with_reducible assumption | (with_reducible apply Blk.new_at; (first | rfl | (simp; done))) | with_reducible apply Blk.store3 | with_reducible apply Blk.store4 | (with_reducible apply Blk.farp; (first | omega | (simp <;> omega))) | with_reducible apply Blk.allocp | with_reducible apply Blk.drew | with_reducible apply Blk.drewN))) hB3; have cX3 := hX3.cell; have fX3 := hX3.frozen; have lX3 := hX3.lt; have mX3 := Nat.ne_of_gt lX3; have nX3 := Nat.ne_of_lt lX3; have hY3 : Blk v3 (w.heap.size + 1) 25 #[.int .i64 e2, .int .i64 a', .int .i64 b'] := Blk.call (by (repeat (first | with_reducible assumption | (with_reducible apply Blk.new_at; (first | rfl | (simp; done))) | with_reducible apply Blk.store3 | with_reducible apply Blk.store4 | (with_reducible apply Blk.farp; (first | omega | (simp <;> omega))) | with_reducible apply Blk.allocp | with_reducible apply Blk.drew | with_reducible apply Blk.drewN))) hB3; have cY3 := hY3.cell; have fY3 := hY3.frozen; have lY3 := hY3.lt; have mY3 := Nat.ne_of_gt lY3; have nY3 := Nat.ne_of_lt lY3; have hR3 : Blk v3 (w.heap.size + 1 + 1) 25 #[.int .i64 0, .int .i64 0, .int .i64 0] := Blk.call (by (repeat (first | with_reducible assumption | (with_reducible apply Blk.new_at; (first | rfl | (simp; done))) | with_reducible apply Blk.store3 | with_reducible apply Blk.store4 | (with_reducible apply Blk.farp; (first | omega | (simp <;> omega))) | with_reducible apply Blk.allocp | with_reducible apply Blk.drew | with_reducible apply Blk.drewN))) hB3; have cR3 := hR3.cell; have fR3 := hR3.frozen; have lR3 := hR3.lt; have mR3 := Nat.ne_of_gt lR3; have nR3 := Nat.ne_of_lt lR3))
  exact bodyPost_ret (v := .tuple #[.agg #[.int .i64 q1, .int .i64 q2, .int .i64 q3], .bool bo]) (by simp [results, Try.results8, go_sem, *]) rfl ⟨rfl, (by repeat (first | with_reducible exact Below.refl _ _ | with_reducible assumption | with_reducible apply Below.drew | with_reducible apply below_drewN | (with_reducible apply below_setp; (first | omega | (simp <;> omega))) | (with_reducible apply below_allocp; (first | omega | (simp <;> omega))) | (with_reducible refine below_viap (by assumption) ?_ ?_; (first | omega | (simp <;> omega)))))⟩
end Go.Proofs.Ytjjkndgokdofdaa
