/- Plain facts and contracts: the inverse as a function, Bezout's coefficients. -/
import Derived.Test.YtifkmjmhhklkjaaP1
import Derived.Test.YtifkmjmhhklkjaaP2
namespace Go.Proofs.Ytifkmjmhhklkjaa
open Go.RowKit

open Classical in
/-- The inverse modulo m. -/
noncomputable def invF (a m : Int) : Int := if h : ∃ v : Int, (0 ≤ v ∧ v < m) ∧ m ∣ Int.gcd a m - a * v then h.choose else 0
theorem inv_uniq {a m u v : Int} (hg : Int.gcd a m = 1) (hu : 0 ≤ u ∧ u < m) (hv : 0 ≤ v ∧ v < m) (du : m ∣ Int.gcd a m - a * u) (dv : m ∣ Int.gcd a m - a * v) : u = v := by
  have h1 : m ∣ a * (v - u) := by
    have := Int.dvd_sub du dv
    have e : (Int.gcd a m - a * u : Int) - (Int.gcd a m - a * v) = a * (v - u) := by grind
    rwa [e] at this
  have h2 : m ∣ v - u := by
    rw [← Int.natAbs_dvd_natAbs, Int.natAbs_mul] at h1
    rw [← Int.natAbs_dvd_natAbs]
    exact Nat.Coprime.dvd_of_dvd_mul_left (show Nat.Coprime m.natAbs a.natAbs by unfold Nat.Coprime; rw [Nat.gcd_comm]; exact hg) h1
  have h3 := Int.emod_eq_zero_of_dvd h2
  have h4 := Int.emod_eq_emod_iff_emod_sub_eq_zero.2 h3
  rw [Int.emod_eq_of_lt hu.1 hu.2, Int.emod_eq_of_lt hv.1 hv.2] at h4
  exact h4.symm
theorem inv_eq {a m v : Int} (hg : Int.gcd a m = 1) (hv : 0 ≤ v ∧ v < m) (dv : m ∣ Int.gcd a m - a * v) : v = invF a m := by
  have hx : ∃ v : Int, (0 ≤ v ∧ v < m) ∧ m ∣ Int.gcd a m - a * v := ⟨v, hv, dv⟩
  unfold invF
  rw [dif_pos hx]
  exact inv_uniq hg hv hx.choose_spec.1 dv hx.choose_spec.2
theorem inv_spec {a m : Int} (hm : 0 < m) (hg : Int.gcd a m = 1) : (0 ≤ invF a m ∧ invF a m < m) ∧ m ∣ 1 - a * invF a m := by
  obtain ⟨u, v, h⟩ := bez a m
  rw [hg] at h
  have h1 := Int.emod_nonneg u (show m ≠ 0 by omega)
  have h2 := Int.emod_lt_of_pos u hm
  have d : m ∣ Int.gcd a m - a * (u % m) := by
    rw [hg]
    refine ⟨v + a * (u / m), ?_⟩
    have e := Int.emod_add_mul_ediv u m
    have e2 : u % m = u - m * (u / m) := by omega
    rw [e2, ← h]; grind
  have e := inv_eq hg ⟨h1, h2⟩ d
  rw [← e]
  rw [hg] at d
  exact ⟨⟨h1, h2⟩, d⟩

theorem inverse_c (a m : Int) (w : World) (hm : 0 < m) (hm2 : m ≤ 1000000000000000) (hg : Int.gcd a m = 1) :
    Calls Try.prog 167 #[.int .i64 a, .int .i64 m] w fun e w' => e = .returned (.int .i64 (invF a m)) ∧ w = w' :=
  (inverse_any a m w hm hm2).mono fun _ _ ⟨_, h1, h2, h3, h4⟩ => ⟨by rw [h1, inv_eq hg h2 h3.out], h4⟩
theorem nuInverse_c (a m : Int) (w : World) (hm : 0 < m) (hm2 : m ≤ 1000000000000000) (hg : Int.gcd a m = 1) :
    Calls Try.prog 163 #[.int .i64 a, .int .i64 m] w fun e w' => e = .returned (.int .i64 (invF a m)) ∧ w = w' :=
  (nuInverse_any a m w hm hm2 hg).mono fun _ _ ⟨_, h1, h2, h3, h4⟩ => ⟨by rw [h1, inv_eq hg h2 h3.out], h4⟩
theorem nuGcd_one (a b : Int) (w : World) (h1 : -4000000000000000000 ≤ a) (h2 : a ≤ 4000000000000000000) (h3 : -4000000000000000000 ≤ b) (h4 : b ≤ 4000000000000000000) (hg : Int.gcd a b = 1) :
    Calls Try.prog 53 #[.int .i64 a, .int .i64 b] w fun e w' => e = .returned (.int .i64 1) ∧ ∃ n, w' = w.drewN n :=
  (nuGcd_any a b w h1 h2 h3 h4).mono fun _ _ ⟨h5, h6⟩ => ⟨by rw [h5, hg]; rfl, h6⟩

/-- Bezout's coefficients of a coprime point. -/
noncomputable def bezS (x y : Int) : Int := if y = 0 then 1 else invF x y
noncomputable def bezV (x y : Int) : Int := if y = 0 then 0 else (1 - x * invF x y) / y
structure BezOK (x y S V : Int) : Prop where
  id : x * S + y * V = 1
  S0 : 0 ≤ S
  S1 : S ≤ 10
  V0 : -10 ≤ V
  V1 : V ≤ 10
theorem bez_ok {x y : Int} (hx : 0 ≤ x ∧ x ≤ 3) (hy : 0 ≤ y ∧ y ≤ 3) (hg : Int.gcd x y = 1) : BezOK x y (bezS x y) (bezV x y) := by
  unfold bezS bezV
  by_cases h0 : y = 0
  · subst h0
    simp at hg
    have : x = 1 := by omega
    subst this
    simp only [if_true]
    exact ⟨by omega, by omega, by omega, by omega, by omega⟩
  · rw [if_neg h0, if_neg h0]
    obtain ⟨⟨s1, s2⟩, k, hk⟩ := inv_spec (show 0 < y by omega) hg
    generalize invF x y = s at *
    have e : (1 - x * s) / y = k := by rw [hk]; exact Int.mul_ediv_cancel_left _ h0
    rw [e]
    have b1 : 0 ≤ x * s := Int.mul_nonneg hx.1 s1
    have b2 : x * s ≤ 3 * 3 := Int.mul_le_mul hx.2 (by omega) s1 (by omega)
    have kk : -9 ≤ k ∧ k ≤ 1 := by
      constructor
      · apply Int.not_lt.1; intro hl
        have : y * k ≤ y * (-10) := Int.mul_le_mul_of_nonneg_left (by omega) (by omega)
        omega
      · apply Int.not_lt.1; intro hl
        have : y * 2 ≤ y * k := Int.mul_le_mul_of_nonneg_left (by omega) (by omega)
        omega
    exact ⟨by omega, s1, by omega, by omega, by omega⟩

set_option maxHeartbeats 400000 in
theorem nuBezout_any (x y S V : Int) (w : World) (hx : 0 ≤ x ∧ x ≤ 3) (hy : 0 ≤ y ∧ y ≤ 3) (hg : Int.gcd x y = 1) (hS : S = bezS x y) (hV : V = bezV x y) :
    Calls Try.prog 162 #[.int .i64 x, .int .i64 y] w fun e w' => e = .returned (.tuple #[.int .i64 1, .int .i64 S, .int .i64 V]) ∧ Below w.heap.size w w' := by
  obtain ⟨x0, x3⟩ := hx
  obtain ⟨y0, y3⟩ := hy
  by_cases h0 : y = 0
  · subst h0
    have hx1 : x = 1 := by simp at hg; omega
    subst hx1
    unfold bezS at hS
    unfold bezV at hV
    rw [if_pos rfl] at hS hV
    subst hS; subst hV
    have Hg := Lib.hid hg; clear hg
    go_enter Try.func162, Try.ntmps162
    go_wp2_with (first | (go_at_call 53; (with_reducible refine (nuGcd_one _ _ _ (by omega) (by omega) (by omega) (by omega) Hg.out).mono ?_); rintro e v ⟨rfl, nq, rfl⟩) | go_in)
    go_ret3
    exact ⟨rfl, (by repeat (first | with_reducible exact Below.refl _ _ | with_reducible assumption | with_reducible apply Below.drew | with_reducible apply below_drewN | (with_reducible apply below_setp; (first | omega | (simp <;> omega))) | (with_reducible apply below_allocp; (first | omega | (simp <;> omega))) | (with_reducible refine below_viap (by assumption) ?_ ?_; (first | omega | (simp <;> omega)))))⟩
  · unfold bezS at hS
    unfold bezV at hV
    rw [if_neg h0] at hS hV
    obtain ⟨⟨s1, s2⟩, k, hk⟩ := inv_spec (show 0 < y by omega) hg
    have hc := fun w => nuInverse_c x y w (by omega) (by omega) hg
    rw [← hS] at hk hV s1 s2 hc
    have b1 : 0 ≤ x * S := Int.mul_nonneg x0 s1
    have b2 : x * S ≤ 3 * 3 := Int.mul_le_mul x3 (by omega) s1 (by omega)
    have e0 : (1 - x * S).tdiv y = V := by
      rw [hV, hk, Int.mul_tdiv_cancel_left _ h0, Int.mul_ediv_cancel_left _ h0]
    have e1 : (y == 0) = false := by rw [beq_eq_false_iff_ne]; exact h0
    have hV1 : -10 ≤ V ∧ V ≤ 10 := by
      rw [← e0]; exact tdiv_bd (by omega) (by omega)
    obtain ⟨V0, V1⟩ := hV1
    have Hc := Lib.hid hc
    have Hg := Lib.hid hg
    clear hg hc hk hS hV
    have ey : ((y.natAbs : Nat) : Int) = y := by omega
    have wx : IntKind.i64.wrap x = x := IntWalk.i64_in _ (by omega)
    have wy : IntKind.i64.wrap y = y := IntWalk.i64_in _ (by omega)
    have wp : IntKind.i64.wrap (x * S) = x * S := IntWalk.i64_in _ (by omega)
    have wq : IntKind.i64.wrap (1 - x * S) = 1 - x * S := IntWalk.i64_in _ (by omega)
    have wv : IntKind.i64.wrap V = V := IntWalk.i64_in _ (by omega)
    go_enter Try.func162, Try.ntmps162
    go_wp2_with (first | (go_at_call 53; (with_reducible refine (nuGcd_one _ _ _ (by omega) (by omega) (by omega) (by omega) Hg.out).mono ?_); rintro e v ⟨rfl, nq, rfl⟩))
    refine wp_region_calm 9 (Below (w.heap.size) _) (by kernel_rfl) (by kernel_rfl) ((Below.refl _ _).drew) ?_
    simp only [List.take_succ_cons, List.take_zero, List.drop_succ_cons, List.drop_zero]
    repeat (first | (apply wpCalm_go; go_simp; (intro w' hw' hcc hff; go_simp; first | exact rfl | (refine (l1Abs_any _ _ (by omega) (by omega)).mono ?_; rintro e w1 ⟨rfl, hb⟩; exact ⟨rfl, calm_call_same hw' hb⟩) | ((with_reducible refine (Hc.out _).mono ?_); rintro e w1 ⟨rfl, hb⟩; exact ⟨rfl, calm_call_same hw' hb⟩)); (intro K hK; go_simp; refine hK _ ?_; clear hK K)) | (apply wpCalm_skip; go_simp; (intro K hK; go_simp; refine hK _ ?_; clear hK K)))
    refine wpCalm_nil ?_
    intro w1 hw1
    have hcc := (calm_cells hw1).1
    have hff := (calm_cells hw1).2
    have hss := calm_size hw1
    have hsz := hw1.size
    (try simp at hsz)
    go_wp2
    refine wp_region_calm 12 (Below (w.heap.size) _) (by kernel_rfl) (by kernel_rfl) ((Below.refl _ _).drew) ?_
    simp only [List.take_succ_cons, List.take_zero, List.drop_succ_cons, List.drop_zero]
    repeat (first | (apply wpCalm_go; go_simp; (intro w' hw' hcc hff; go_simp; first | exact rfl | fail); (intro K hK; go_simp; refine hK _ ?_; clear hK K)) | (apply wpCalm_skip; go_simp; (intro K hK; go_simp; refine hK _ ?_; clear hK K)))
    refine wpCalm_nil ?_
    intro w1 hw1
    have hcc := (calm_cells hw1).1
    have hff := (calm_cells hw1).2
    have hss := calm_size hw1
    have hsz := hw1.size
    (try simp at hsz)
    go_wp2
    go_ret3
    exact ⟨rfl, (by repeat (first | with_reducible exact Below.refl _ _ | with_reducible assumption | with_reducible apply Below.drew | with_reducible apply below_drewN | (with_reducible apply below_setp; (first | omega | (simp <;> omega))) | (with_reducible apply below_allocp; (first | omega | (simp <;> omega))) | (with_reducible refine below_viap (by assumption) ?_ ?_; (first | omega | (simp <;> omega)))))⟩
end Go.Proofs.Ytifkmjmhhklkjaa
