/- Contracts: the product of ideals, of the program. -/
import Derived.Test.YtjjkndgokdofdaaRI
namespace Go.Proofs.Ytjjkndgokdofdaa
open Go.RowKit

theorem own_blk8 {w : World} {g : Nat} {t : TypeId} {a b c d e f x y : Value} (h : Blk w g t #[a, b, c, d, e, f, x, y]) : w.ownsRow g t 2 (.slice (some ⟨g, 0, none⟩) 4 4) 4 [a, b, c, d, e, f, x, y] :=
  ⟨rfl, .inr ⟨g, 4, #[a, b, c, d, e, f, x, y], rfl, Nat.le_refl _, h, Nat.le_refl _, by decide, rfl, rfl⟩⟩
theorem kap_facts {e A t : Int} (he : 0 < e) : (e * t) % (2 * e * A) = e * (t % (2 * A)) ∧ (e * (t % (2 * A))).tdiv e = t % (2 * A) ∧ (-(t % (2 * A))) % (2 * A) = (-t) % (2 * A) ∧ (2 * e * A).tdiv e = 2 * A := by
  refine ⟨?_, ?_, ?_, ?_⟩
  · rw [show 2 * e * A = e * (2 * A) by grind, Int.mul_emod_mul_of_pos _ _ he]
  · exact Int.mul_tdiv_cancel_left _ (by omega)
  · rw [Int.emod_eq_emod_iff_emod_sub_eq_zero]
    apply Int.emod_eq_zero_of_dvd
    have := Int.mul_ediv_add_emod t (2 * A)
    exact ⟨t / (2 * A), by omega⟩
  · rw [show 2 * e * A = e * (2 * A) by grind]
    exact Int.mul_tdiv_cancel_left _ (by omega)
set_option maxRecDepth 100000 in
set_option maxHeartbeats 6400000 in
theorem idealOf_any (x0 : Int) (L' : List (Int × Int)) (A e t : Int) (v : Value) (B : Nat) (w : World) (hx0 : 0 < x0 ∧ x0 ≤ 400000000)
    (hb : ∀ p ∈ L', (-400000000 ≤ p.1 ∧ p.1 ≤ 400000000) ∧ (-20000 ≤ p.2 ∧ p.2 ≤ 20000)) (hlen : L'.length ≤ 100) (hsp : SpEq [(2 * e * A, 0), (e * t, e)] ((x0, 0) :: L')) (hA : 0 < A) (he : 0 < e)
    (ho : w.ownsRow B 113 2 v ((x0, 0) :: L').length (cellsP ((x0, 0) :: L'))) :
    Calls Try.prog 87 #[v] w fun e1 w' => e1 = .returned (.agg #[.int .i64 e, .int .i64 A, .int .i64 ((-t) % (2 * A))]) ∧ Below w.heap.size w w' := by
  have heA : 0 < e * A := Int.mul_pos he hA
  have hNx : 2 * e * A ≤ x0 := by
    obtain ⟨k, l, p1, p2⟩ := Sp.two_iff.1 ((hsp (x0, 0)).2 (Sp.mem (by simp)))
    rw [Int.mul_zero, Int.zero_add] at p2
    have hl : l = 0 := by
      rcases Int.mul_eq_zero.1 p2.symm with h | h <;> omega
    rw [hl] at p1
    refine Int.le_of_dvd hx0.1 ⟨k, ?_⟩
    rw [p1]; grind
  have hAe : A ≤ e * A := by have := Int.mul_le_mul_of_nonneg_right (show 1 ≤ e by omega) (show 0 ≤ A by omega); omega
  have hee : e ≤ e * A := by have := Int.mul_le_mul_of_nonneg_left (show 1 ≤ A by omega) (show 0 ≤ e by omega); omega
  rw [Int.mul_assoc] at hNx
  obtain ⟨k1, k2, k3, k4⟩ := kap_facts (A := A) (t := t) he
  have hH := Lib.hid (fun w ho => hermite_any x0 L' (2 * e * A) (e * t) e v B w hx0 hb hlen hsp (by rw [Int.mul_assoc]; omega) he ho)
  rw [k1] at hH
  have HO := Lib.hid ho
  have r1 := Int.emod_nonneg t (show 2 * A ≠ 0 by omega)
  have r2 := Int.emod_lt_of_pos t (show 0 < 2 * A by omega)
  have hM : Hid (∀ w, Calls Try.prog 95 #[.int .i64 (-(t % (2 * A))), .int .i64 (2 * A)] w fun e w' => e = .returned (.int .i64 ((-t) % (2 * A))) ∧ w = w') := Lib.hid (fun w => by
    have h := mod_any (-(t % (2 * A))) (2 * A) w (by omega) (by omega)
    rw [k3] at h
    exact h)
  have hb0 : e * (t % (2 * A)) ≤ 2 * (e * A) := by have := Int.mul_le_mul_of_nonneg_left (show t % (2 * A) ≤ 2 * A by omega) (show 0 ≤ e by omega); rw [show e * (2 * A) = 2 * (e * A) by grind] at this; exact this
  have hb1 : 0 ≤ e * (t % (2 * A)) := Int.mul_nonneg (by omega) r1
  have hN0 : 0 < 2 * e * A := by rw [Int.mul_assoc]; omega
  have hN1 : 2 * e * A ≤ 400000000 := by rw [Int.mul_assoc]; omega
  generalize (-t) % (2 * A) = R at *
  generalize t % (2 * A) = κ at *
  generalize e * κ = b at *
  generalize 2 * e * A = N at *
  have hx1 := hx0.2
  have e0 : (e == 0) = false := beq_eq_false_iff_ne.2 (by omega)
  have e1 : ¬ e = 0 := by omega
  have w1 : wrap64 (2 * A) = 2 * A := IntWalk.wrap64_in _ (by omega)
  have i1 : IntKind.i64.wrap (-b) = -b := IntWalk.i64_in _ (by omega)
  have i2 : IntKind.i64.wrap (-κ) = -κ := IntWalk.i64_in _ (by omega)
  have i3 : IntKind.i64.wrap (2 * A) = 2 * A := IntWalk.i64_in _ (by omega)
  have w0 : wrap64 A = A := IntWalk.wrap64_in _ (by omega)
  have a2 : (2 * A).tdiv 2 = A := by rw [Int.tdiv_eq_ediv_of_nonneg (by omega)]; omega
  have a3 : (2 * A) / 2 = A := by omega
  clear hsp hb hlen ho k1 k3 hNx hAe hee heA hx0
  go_enter Try.func87, Try.ntmps87
  go_wp2_with fail
  refine (hH.out _ (own_alloc HO.out)).mono ?_
  rintro e2 v1 ⟨rfl, hB1⟩
  have hZ1 := hB1.size
  (try simp at hZ1)
  have hR1 : Blk v1 w.heap.size 25 #[.int .i64 0, .int .i64 0, .int .i64 0] := Blk.call (by (repeat (first | with_reducible assumption | (with_reducible apply Blk.new_at; (first | rfl | (simp; done))) | with_reducible apply Blk.store3 | with_reducible apply Blk.store4 | (with_reducible apply Blk.farp; (first | omega | (simp <;> omega))) | with_reducible apply Blk.allocp | with_reducible apply Blk.drew | with_reducible apply Blk.drewN))) hB1
  have cR1 := hR1.cell; have fR1 := hR1.frozen; have lR1 := hR1.lt; have mR1 := Nat.ne_of_gt lR1; have nR1 := Nat.ne_of_lt lR1
  go_wp2
  refine wp_region_calm 8 (Below (v1.heap.size + 1) _) (by kernel_rfl) (by kernel_rfl) ((Below.refl _ _).drew) ?_
  simp only [List.take_succ_cons, List.take_zero, List.drop_succ_cons, List.drop_zero]
  repeat (first | (apply wpCalm_go; go_simp; (intro w' hw' hcc hff; go_simp; first | exact rfl | ((with_reducible refine (hM.out _).mono ?_); rintro e w1 ⟨rfl, hb⟩; exact ⟨rfl, calm_call_same hw' hb⟩)); (intro K hK; go_simp; refine hK _ ?_; clear hK K)) | (apply wpCalm_skip; go_simp; (try (focus (simp [undef]; done))); (intro K hK; go_simp; refine hK _ ?_; clear hK K)))
  refine wpCalm_nil ?_
  intro w1 hw1
  have hcc := (calm_cells hw1).1
  have hff := (calm_cells hw1).2
  have hss := calm_size hw1
  have hsz := hw1.size
  (try simp at hsz)
  have hX2 : Blk w1 v1.heap.size 25 #[.int .i64 e, .int .i64 A, .int .i64 0] := (Blk.new v1 _ _).below hw1 (by omega)
  have hR2 : Blk w1 w.heap.size 25 #[.int .i64 0, .int .i64 0, .int .i64 0] := (hR1.alloc _).below hw1 (by omega)
  have cX2 := hX2.cell; have fX2 := hX2.frozen; have lX2 := hX2.lt
  have cR2 := hR2.cell; have fR2 := hR2.frozen; have lR2 := hR2.lt
  have hz1 := hw1.size
  clear hcc hff hss cR1 fR1
  go_wp2
  exact bodyPost_ret (v := .agg #[.int .i64 e, .int .i64 A, .int .i64 R]) (by simp [results, Try.results87, go_sem, *]) rfl ⟨rfl, (by repeat (first | with_reducible exact Below.refl _ _ | with_reducible assumption | with_reducible apply Below.drew | with_reducible apply below_drewN | (with_reducible apply below_setp; (first | omega | (simp <;> omega))) | (with_reducible apply below_allocp; (first | omega | (simp <;> omega))) | (with_reducible refine below_viap (by assumption) ?_ ?_; (first | omega | (simp <;> omega)))))⟩
end Go.Proofs.Ytjjkndgokdofdaa
