/- Contracts: the composite of two classes, by the reference. -/
import Derived.Test.YtifkmjmhhklkjaaU8
namespace Go.Proofs.Ytifkmjmhhklkjaa
open Go.RowKit

set_option maxHeartbeats 800000 in
theorem coJoined_any (a e b c z : Int) (w : World) (h1 : Far (a * e)) (h2 : Far (e * c)) (h3 : 0 < e) (h4 : Far c) :
    Calls Try.prog 129 #[.agg #[.int .i64 a, .int .i64 b, .int .i64 (e * c)], .agg #[.int .i64 e, .int .i64 b, .int .i64 z]] w fun ee w' =>
      ee = .returned (.agg #[.int .i64 (a * e), .int .i64 b, .int .i64 c]) ∧ Below w.heap.size w w' := by
  obtain ⟨h1, k1⟩ := h1
  obtain ⟨h2, k2⟩ := h2
  obtain ⟨h4, k4⟩ := h4
  have e0 : (e * c).tdiv e = c := Int.mul_tdiv_cancel_left _ (by omega)
  have e1 : (e == 0) = false := by rw [beq_eq_false_iff_ne]; omega
  have e2 : ¬ e = 0 := by omega
  have w1 : IntKind.i64.wrap (a * e) = a * e := IntWalk.i64_in _ (by omega)
  have w2 : IntKind.i64.wrap c = c := IntWalk.i64_in _ (by omega)
  generalize e * c = m at *
  go_enter Try.func129, Try.ntmps129
  go_wp2
  go_region_held3 (fun w' => w'.cell? ⟨w.heap.size, 0, none⟩ = some (.int .i64 (a)) ∧ w'.cell? ⟨w.heap.size, 1, none⟩ = some (.int .i64 (b)) ∧ w'.cell? ⟨w.heap.size, 2, none⟩ = some (.int .i64 (m)) ∧ w'.cell? ⟨w.heap.size + 1, 0, none⟩ = some (.int .i64 (e)) ∧ w'.cell? ⟨w.heap.size + 1, 1, none⟩ = some (.int .i64 (b)) ∧ w'.cell? ⟨w.heap.size + 1, 2, none⟩ = some (.int .i64 (z))) (first | (go_keep; done) | (go_simp; done)) (fail)
  go_wp2
  exact bodyPost_ret (v := .agg #[.int .i64 (a * e), .int .i64 b, .int .i64 c]) (by simp [results, Try.results129, go_sem, *]) rfl ⟨rfl, (by repeat (first | with_reducible exact Below.refl _ _ | with_reducible assumption | with_reducible apply Below.drew | with_reducible apply below_drewN | (with_reducible apply below_setp; (first | omega | (simp <;> omega))) | (with_reducible apply below_allocp; (first | omega | (simp <;> omega))) | (with_reducible refine below_viap (by assumption) ?_ ?_; (first | omega | (simp <;> omega)))))⟩

set_option maxHeartbeats 1600000 in
theorem coMul_any (d : Int) (f0 g0 f g r : Fm) (w : World) (D : Dsc d) (hf : f ∈ clsL d) (hg : g ∈ clsL d) (hf0 : Def M0 f0) (hg0 : Def M0 g0) (hrf : red f0 = f) (hrg : red g0 = g) (hr : cmp d f g = r) :
    Calls Try.prog 96 #[.agg #[.int .i64 f0.a, .int .i64 f0.b, .int .i64 f0.c], .agg #[.int .i64 g0.a, .int .i64 g0.b, .int .i64 g0.c]] w fun ee w' =>
      ee = .returned (.agg #[.int .i64 r.a, .int .i64 r.b, .int .i64 r.c]) ∧ Below w.heap.size w w' := by
  obtain ⟨x, y, S, Q, T, e, h, k, b, c, t1, t2, u⟩ := ud_ex D hf hg
  have hU := Lib.hid (fun w => coUnite_any d f0 g0 f g x y S Q T e h k b c t1 t2 w u hf0 hg0 hrf hrg)
  have hcm := u.cmp
  rw [hr] at hcm
  have hR := Lib.hid (fun w => reClass_any (f.a * e) b c r.a r.b r.c w u.dfn hcm)
  obtain ⟨ae1, ae2⟩ := u.ae
  obtain ⟨e1, e2⟩ := u.e_pos
  obtain ⟨c1, c2⟩ := u.c_bd
  have bec := mul_bd (a := e) (x := c) (A := 20000) (X := 1000000) (by omega) (by omega) (by omega) (by omega)
  have hJ := Lib.hid (fun w => coJoined_any f.a e b c (f.a * c) w ⟨by omega, by omega⟩ ⟨by omega, by omega⟩ e1 ⟨by omega, by omega⟩)
  generalize f.a * e = l at *
  generalize f.a = a at *
  clear u hcm hr hrf hrg ae1 ae2
  go_enter Try.func96, Try.ntmps96
  go_wp2_with (first
    | (go_at_call 128; (with_reducible refine (hU.out _).mono ?_); rintro ee v1 ⟨m1, m2, m3, m4, n1, n2, n3, n4, rfl, hB1⟩; have hZ1 := hB1.size; (try simp at hZ1); have hP1 : Blk v1 (w.heap.size + 1 + 1) 23 #[.int .i64 0, .int .i64 0, .int .i64 0] := Blk.call (by (repeat (first | with_reducible assumption | (with_reducible apply Blk.new_at; (first | rfl | (simp; done))) | with_reducible apply Blk.store3 | with_reducible apply Blk.store4 | (with_reducible apply Blk.farp; (first | omega | (simp <;> omega))) | with_reducible apply Blk.allocp | with_reducible apply Blk.drew | with_reducible apply Blk.drewN))) hB1; have cP1 := hP1.cell; have fP1 := hP1.frozen; have lP1 := hP1.lt; have zl1 : w.heap.size < v1.heap.size := by omega)
    | (go_at_call 129; (with_reducible refine (hJ.out _).mono ?_); rintro e v2 ⟨rfl, hB2⟩; have hZ2 := hB2.size; (try simp at hZ2); (try have zl2 : w.heap.size < v2.heap.size := by omega); (try have ze2 : w.heap.size ≤ v2.heap.size := by omega); (try have zn2 : ¬ w.heap.size = v2.heap.size := by omega); (try have zm2 : ¬ v2.heap.size = w.heap.size := by omega); have hP2 : Blk v2 (w.heap.size + 1 + 1) 23 #[.int .i64 0, .int .i64 0, .int .i64 0] := Blk.call (by (repeat (first | with_reducible assumption | (with_reducible apply Blk.new_at; (first | rfl | (simp; done))) | with_reducible apply Blk.store3 | with_reducible apply Blk.store4 | (with_reducible apply Blk.farp; (first | omega | (simp <;> omega))) | with_reducible apply Blk.allocp | with_reducible apply Blk.drew | with_reducible apply Blk.drewN))) hB2; have cP2 := hP2.cell; have fP2 := hP2.frozen; have lP2 := hP2.lt; have mP2 := Nat.ne_of_gt lP2; have nP2 := Nat.ne_of_lt lP2)
    | (go_at_call 54; (with_reducible refine (hR.out _).mono ?_); rintro e v3 ⟨rfl, hB3⟩; have hZ3 := hB3.size; (try simp at hZ3); (try have zl3 : w.heap.size < v3.heap.size := by omega); (try have ze3 : w.heap.size ≤ v3.heap.size := by omega); (try have zn3 : ¬ w.heap.size = v3.heap.size := by omega); (try have zm3 : ¬ v3.heap.size = w.heap.size := by omega); have hP3 : Blk v3 (w.heap.size + 1 + 1) 23 #[.int .i64 0, .int .i64 0, .int .i64 0] := Blk.call (by (repeat (first | with_reducible assumption | (with_reducible apply Blk.new_at; (first | rfl | (simp; done))) | with_reducible apply Blk.store3 | with_reducible apply Blk.store4 | (with_reducible apply Blk.farp; (first | omega | (simp <;> omega))) | with_reducible apply Blk.allocp | with_reducible apply Blk.drew | with_reducible apply Blk.drewN))) hB3; have cP3 := hP3.cell; have fP3 := hP3.frozen; have lP3 := hP3.lt; have mP3 := Nat.ne_of_gt lP3; have nP3 := Nat.ne_of_lt lP3))
  exact bodyPost_ret (v := .agg #[.int .i64 r.a, .int .i64 r.b, .int .i64 r.c]) (by simp [results, Try.results96, go_sem, *]) rfl ⟨rfl, (by repeat (first | with_reducible exact Below.refl _ _ | with_reducible assumption | with_reducible apply Below.drew | with_reducible apply below_drewN | (with_reducible apply below_setp; (first | omega | (simp <;> omega))) | (with_reducible apply below_allocp; (first | omega | (simp <;> omega))) | (with_reducible refine below_viap (by assumption) ?_ ?_; (first | omega | (simp <;> omega)))))⟩
end Go.Proofs.Ytifkmjmhhklkjaa
