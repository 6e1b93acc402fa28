/- Contracts: united forms, by the reference: the common residue. -/
import Derived.Test.YtifkmjmhhklkjaaU5
namespace Go.Proofs.Ytifkmjmhhklkjaa
open Go.RowKit

theorem gcd_two {a e : Int} (h : Int.gcd a e = 1) : Int.gcd (2 * a) (2 * e) = 2 := by
  rw [Int.gcd_mul_left]; simp [h]

set_option maxHeartbeats 1600000 in
theorem nuCommon_any (d : Int) (f g : Fm) (x y S Q T e h k b c t1 t2 : Int) (w : World) (u : UD d f g x y S Q T e h k b c t1 t2) :
    Calls Try.prog 152 #[.int .i64 (f.b % (2 * f.a)), .int .i64 (2 * f.a), .int .i64 h, .int .i64 (2 * e)] w fun ee w' =>
      ee = .returned (.tuple #[.int .i64 b, .int .i64 (2 * f.a / 2 * (2 * e)), .bool true]) ∧ Below w.heap.size w w' := by
  obtain ⟨⟨a1, a2⟩, ⟨fb1, fb2⟩, _⟩ := cls_bd u.D.lo u.hf
  obtain ⟨e1, e2⟩ := u.e_pos
  obtain ⟨h1, h2⟩ := u.h_bd
  obtain ⟨m1, m2⟩ := u.ae
  have hi := nuInverse_c f.a e
  have his := inv_spec e1 u.cop
  have hcm := u.common _ rfl
  generalize invF f.a e = i at *
  obtain ⟨⟨i0, i1⟩, _⟩ := his
  obtain ⟨hc1, hc2⟩ := hcm
  have r1 := Int.emod_nonneg f.b (show 2 * f.a ≠ 0 by omega)
  have r2 := Int.emod_lt_of_pos f.b (show 0 < 2 * f.a by omega)
  have hgc := gcd_two u.cop
  have hG := Lib.hid (fun w => (nuGcd_any (2 * f.a) (2 * e) w (by omega) (by omega) (by omega) (by omega)).mono (R' := fun e' w' => e' = .returned (.int .i64 2) ∧ ∃ n, w' = w.drewN n) (fun _ _ ⟨h5, h6⟩ => ⟨by rw [h5, hgc]; rfl, h6⟩))
  have hI := Lib.hid (fun w => hi w e1 (by omega) u.cop)
  clear hi hgc
  generalize f.b % (2 * f.a) = r at *
  have z1 : (h - r).tmod 2 = 0 := by
    have : h - r = 2 * ((h - r) / 2) := by omega
    rw [this]; exact Int.mul_tmod_right _ _
  have z2 : (h - r).tdiv 2 = (h - r) / 2 := by
    have : h - r = 2 * ((h - r) / 2) := by omega
    rw (occs := .pos [1]) [this]; exact Int.mul_tdiv_cancel_left _ (by omega)
  generalize hz : (h - r) / 2 = z at *
  have zb : -40000 ≤ z ∧ z ≤ 40000 := by omega
  obtain ⟨zb1, zb2⟩ := zb
  have zi := mul_bd (a := z) (x := i) (A := 40000) (X := 40000) (by omega) (by omega) (by omega) (by omega)
  obtain ⟨zi1, zi2⟩ := zi
  have s1 := Int.emod_nonneg (z * i) (show e ≠ 0 by omega)
  have s2 := Int.emod_lt_of_pos (z * i) e1
  have hs3 := mul_bd (a := 2 * f.a) (x := z * i % e) (A := 52) (X := 40000) (by omega) (by omega) (by omega) (by omega)
  obtain ⟨s3, s4⟩ := hs3
  have q1 : (2 * f.a).tdiv 2 = f.a := Int.mul_tdiv_cancel_left _ (by omega)
  have q2 : (2 * e).tdiv 2 = e := Int.mul_tdiv_cancel_left _ (by omega)
  have q3 : 2 * f.a / 2 = f.a := Int.mul_ediv_cancel_left _ (by omega)
  rw [q3]
  have l3 : f.a * (2 * e) = 2 * (f.a * e) := by grind
  have l4 : 0 < f.a * (2 * e) := by omega
  have l5 : f.a * (2 * e) ≤ 1040000 := by omega
  rw [← l3] at hc2
  have w1 : IntKind.i64.wrap (h - r) = h - r := IntWalk.i64_in _ (by omega)
  have w2 : IntKind.i64.wrap z = z := IntWalk.i64_in _ (by omega)
  have w3 : IntKind.i64.wrap f.a = f.a := IntWalk.i64_in _ (by omega)
  have w4 : IntKind.i64.wrap e = e := IntWalk.i64_in _ (by omega)
  have w5 : IntKind.i64.wrap (z * i) = z * i := IntWalk.i64_in _ (by omega)
  clear hz hc1 l3
  go_enter Try.func152, Try.ntmps152
  go_wp2_with (go_at_call 53; (with_reducible refine (hG.out _).mono ?_); rintro e' v ⟨rfl, nq, rfl⟩)
  refine wp_region_calm 18 (Below (w.heap.size) _) (by kernel_rfl) (by kernel_rfl) ((Below.refl _ _).drew) ?_
  simp only [List.take_succ_cons, List.take_zero, List.drop_succ_cons, List.drop_zero]
  repeat (first | (apply wpCalm_go; go_simp; (intro w' hw' hcc hff; go_simp; first | exact rfl | ((with_reducible refine (hI.out _).mono ?_); rintro e' w1 ⟨rfl, hb⟩; exact ⟨rfl, calm_call_same hw' hb⟩) | ((with_reducible refine (nuMod_any (z * i) e _ e1 (by omega)).mono ?_); rintro e' w1 ⟨rfl, hb⟩; exact ⟨rfl, calm_call_same hw' hb⟩)); (intro K hK; go_simp; refine hK _ ?_; clear hK K)) | (apply wpCalm_skip; go_simp; (intro K hK; go_simp; refine hK _ ?_; clear hK K)))
  refine wpCalm_nil ?_
  intro w1 hw1
  have hcc := (calm_cells hw1).1
  have hff := (calm_cells hw1).2
  have hss := calm_size hw1
  have hsz := hw1.size
  (try simp at hsz)
  go_wp2_with (go_at_call 86; (with_reducible refine (nuMod_any _ _ _ l4 (by omega)).mono ?_); rintro e v ⟨rfl, rfl⟩)
  go_ret3
  exact ⟨rfl, (by repeat (first | with_reducible exact Below.refl _ _ | with_reducible assumption | with_reducible apply Below.drew | with_reducible apply below_drewN | (with_reducible apply below_setp; (first | omega | (simp <;> omega))) | (with_reducible apply below_allocp; (first | omega | (simp <;> omega))) | (with_reducible refine below_viap (by assumption) ?_ ?_; (first | omega | (simp <;> omega)))))⟩
end Go.Proofs.Ytifkmjmhhklkjaa
