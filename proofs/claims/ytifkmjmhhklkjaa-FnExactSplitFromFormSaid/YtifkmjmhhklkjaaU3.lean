/- Contracts: a point is completed to a matrix, by the reference. -/
import Derived.Test.YtifkmjmhhklkjaaU2
import Derived.Deep.RegionHeld3
namespace Go.Proofs.Ytifkmjmhhklkjaa
open Go.RowKit

theorem CoD.D_bd {a b c x y S Q T : Int} (h : CoD a b c x y S Q T) : (Far (b * b) ∧ Far (4 * a) ∧ Far (4 * a * c)) ∧ (-1000000 ≤ disc ⟨a, b, c⟩ ∧ disc ⟨a, b, c⟩ ≤ 1000000) := by
  obtain ⟨a1, a2⟩ := h.ha; obtain ⟨b1, b2⟩ := h.hb; obtain ⟨c1, c2⟩ := h.hc
  have k1 := mul_bd (a := b) (x := b) (A := 100) (X := 100) (by omega) (by omega) (by omega) (by omega)
  have k2 := mul_bd (a := 4 * a) (x := c) (A := 400) (X := 1100) (by omega) (by omega) (by omega) (by omega)
  refine ⟨⟨⟨by omega, by omega⟩, ⟨by omega, by omega⟩, ⟨by omega, by omega⟩⟩, ?_⟩
  simp only [disc]; omega

set_option maxRecDepth 100000 in
set_option maxHeartbeats 1600000 in
theorem vaComplete_any (a b c x y S Q T : Int) (w : World) (h : CoD a b c x y S Q T) :
    Calls Try.prog 151 #[.agg #[.int .i64 a, .int .i64 b, .int .i64 c], .int .i64 x, .int .i64 y] w fun e w' =>
      e = .returned (.tuple #[.agg #[.int .i64 (atF a b c x y), .int .i64 (polF a b c x y (Q + T * x) (S + T * y)), .int .i64 (atF a b c (Q + T * x) (S + T * y))], .agg #[.int .i64 x, .int .i64 (Q + T * x), .int .i64 y, .int .i64 (S + T * y)]]) ∧ Below w.heap.size w w' := by
  obtain ⟨⟨q1, q2⟩, ⟨t1, t2⟩, ⟨m1, m2⟩, ⟨n1, n2⟩⟩ := h.qt
  obtain ⟨hb1, hb2⟩ := h.B0
  have heb := h.e_bd
  have he := h.he
  obtain ⟨T1, T2⟩ := h.T_bd
  obtain ⟨x0, x3⟩ := h.hx; obtain ⟨y0, y3⟩ := h.hy
  obtain ⟨bid, s1, s2, v1, v2⟩ := h.bez
  obtain ⟨⟨d1, d2, d3⟩, D1, D2⟩ := h.D_bd
  obtain ⟨p1, p2⟩ := h.hb0
  have f1 := at_wide h.ha h.hb h.hc (u := x) (v := y) (by omega) (by omega)
  have f2 := pol_wide h.ha h.hb h.hc h.hx h.hy (u := Q) (v := S) (by omega) (by omega)
  have hT := h.eT
  have hBz := Lib.hid (fun w => nuBezout_any x y S (-Q) w h.hx h.hy h.hg h.eS h.eQ)
  have hVal := Lib.hid (fun w => foValue_any a b c x y w f1)
  have hPol := Lib.hid (fun w => foPolar_any a b c x y Q S w f2)
  have hDis := Lib.hid (fun w => sdisc_any a b c w d1 d2 d3)
  have hat := at_disc (a := a) (b := b) (c := c) h.det
  have hsh := pol_shift a b c x y Q S T
  generalize disc ⟨a, b, c⟩ = D at *
  generalize atF a b c x y = E at *
  generalize polF a b c x y Q S = P at *
  generalize polF a b c x y (Q + T * x) (S + T * y) = P2 at *
  generalize atF a b c (Q + T * x) (S + T * y) = R2 at *
  have eE : (2 * E == 0) = false := by rw [beq_eq_false_iff_ne]; omega
  have eE2 : ¬ 2 * E = 0 := by omega
  have eF : (4 * E == 0) = false := by rw [beq_eq_false_iff_ne]; omega
  have eF2 : ¬ 4 * E = 0 := by omega
  have em := Int.emod_add_mul_ediv P (2 * E)
  have em1 := Int.emod_nonneg P eE2
  have em2 := Int.emod_lt_of_pos P (show 0 < 2 * E by omega)
  have eT2 : (P % (2 * E) - P).tdiv (2 * E) = T := by
    have : P % (2 * E) - P = 2 * E * T := by rw [hT, Int.mul_neg]; omega
    rw [this, Int.mul_tdiv_cancel_left _ eE2]
  have eP : P + 2 * E * T = P2 := by rw [hsh]; grind
  have eT3 : -100000000000 ≤ 2 * E * T ∧ 2 * E * T ≤ 100000000000 := by omega
  obtain ⟨eT3, eT4⟩ := eT3
  have eR : (P2 * P2 - D).tdiv (4 * E) = R2 := by
    have : P2 * P2 - D = 4 * E * R2 := by omega
    rw [this, Int.mul_tdiv_cancel_left _ eF2]
  have ePP := mul_bd (a := P2) (x := P2) (A := 40000) (X := 40000) (by omega) (by omega) (by omega) (by omega)
  obtain ⟨pp1, pp2⟩ := ePP
  have hR2 : -10000000000 ≤ R2 ∧ R2 ≤ 10000000000 := by rw [← eR]; exact tdiv_bd (by omega) (by omega)
  obtain ⟨r1, r2⟩ := hR2
  have w1 : IntKind.i64.wrap (P2 * P2) = P2 * P2 := IntWalk.i64_in _ (by omega)
  have w2 : IntKind.i64.wrap (P2 * P2 - D) = P2 * P2 - D := IntWalk.i64_in _ (by omega)
  have w3 : IntKind.i64.wrap (4 * E) = 4 * E := IntWalk.i64_in _ (by omega)
  have w4 : IntKind.i64.wrap R2 = R2 := IntWalk.i64_in _ (by omega)
  have ex1 : x * T = T * x := Int.mul_comm _ _
  have ex2 : y * T = T * y := Int.mul_comm _ _
  clear h hT hat hsh bid em f1 f2 d1 d2 d3
  go_enter Try.func151, Try.ntmps151
  go_wp2_with (first
    | (go_at_call 162; (with_reducible refine (hBz.out _).mono ?_); rintro e v1 ⟨rfl, hB1⟩; have hZ1 := hB1.size; (try simp at hZ1); (try have zl1 : w.heap.size < v1.heap.size := by omega); (try have ze1 : w.heap.size ≤ v1.heap.size := by omega); (try have zn1 : ¬ w.heap.size = v1.heap.size := by omega); (try have zm1 : ¬ v1.heap.size = w.heap.size := by omega); have hC1_0 := fun o => (calm_cells hB1).1 (w.heap.size) o (by first | omega | (simp <;> omega)); have hF1_0 := fun o => (calm_cells hB1).2 (w.heap.size) o (by first | omega | (simp <;> omega)); (try have hl1_0 : w.heap.size < v1.heap.size := by omega); (try have hm1_0 : ¬ w.heap.size = v1.heap.size := by omega); (try have hn1_0 : ¬ v1.heap.size = w.heap.size := by omega); have hC1_1 := fun o => (calm_cells hB1).1 (w.heap.size + 1) o (by first | omega | (simp <;> omega)); have hF1_1 := fun o => (calm_cells hB1).2 (w.heap.size + 1) o (by first | omega | (simp <;> omega)); (try have hl1_1 : w.heap.size + 1 < v1.heap.size := by omega); (try have hm1_1 : ¬ w.heap.size + 1 = v1.heap.size := by omega); (try have hn1_1 : ¬ v1.heap.size = w.heap.size + 1 := by omega); have hC1_2 := fun o => (calm_cells hB1).1 (w.heap.size + 1 + 1) o (by first | omega | (simp <;> omega)); have hF1_2 := fun o => (calm_cells hB1).2 (w.heap.size + 1 + 1) o (by first | omega | (simp <;> omega)); (try have hl1_2 : w.heap.size + 1 + 1 < v1.heap.size := by omega); (try have hm1_2 : ¬ w.heap.size + 1 + 1 = v1.heap.size := by omega); (try have hn1_2 : ¬ v1.heap.size = w.heap.size + 1 + 1 := by omega))
    | (go_at_call 134; (with_reducible refine (hVal.out _).mono ?_); rintro e v2 ⟨rfl, hB2⟩; have hZ2 := hB2.size; (try simp at hZ2); (try have zl2 : w.heap.size < v2.heap.size := by omega); (try have ze2 : w.heap.size ≤ v2.heap.size := by omega); (try have zn2 : ¬ w.heap.size = v2.heap.size := by omega); (try have zm2 : ¬ v2.heap.size = w.heap.size := by omega); have hC2_0 := fun o => (calm_cells hB2).1 (w.heap.size) o (by first | omega | (simp <;> omega)); have hF2_0 := fun o => (calm_cells hB2).2 (w.heap.size) o (by first | omega | (simp <;> omega)); (try have hl2_0 : w.heap.size < v2.heap.size := by omega); (try have hm2_0 : ¬ w.heap.size = v2.heap.size := by omega); (try have hn2_0 : ¬ v2.heap.size = w.heap.size := by omega); have hC2_1 := fun o => (calm_cells hB2).1 (w.heap.size + 1) o (by first | omega | (simp <;> omega)); have hF2_1 := fun o => (calm_cells hB2).2 (w.heap.size + 1) o (by first | omega | (simp <;> omega)); (try have hl2_1 : w.heap.size + 1 < v2.heap.size := by omega); (try have hm2_1 : ¬ w.heap.size + 1 = v2.heap.size := by omega); (try have hn2_1 : ¬ v2.heap.size = w.heap.size + 1 := by omega); have hC2_2 := fun o => (calm_cells hB2).1 (w.heap.size + 1 + 1) o (by first | omega | (simp <;> omega)); have hF2_2 := fun o => (calm_cells hB2).2 (w.heap.size + 1 + 1) o (by first | omega | (simp <;> omega)); (try have hl2_2 : w.heap.size + 1 + 1 < v2.heap.size := by omega); (try have hm2_2 : ¬ w.heap.size + 1 + 1 = v2.heap.size := by omega); (try have hn2_2 : ¬ v2.heap.size = w.heap.size + 1 + 1 := by omega))
    | (go_at_call 144; (with_reducible refine (hPol.out _).mono ?_); rintro e v3 ⟨rfl, hB3⟩; have hZ3 := hB3.size; (try simp at hZ3); (try have zl3 : w.heap.size < v3.heap.size := by omega); (try have ze3 : w.heap.size ≤ v3.heap.size := by omega); (try have zn3 : ¬ w.heap.size = v3.heap.size := by omega); (try have zm3 : ¬ v3.heap.size = w.heap.size := by omega); have hC3_0 := fun o => (calm_cells hB3).1 (w.heap.size) o (by first | omega | (simp <;> omega)); have hF3_0 := fun o => (calm_cells hB3).2 (w.heap.size) o (by first | omega | (simp <;> omega)); (try have hl3_0 : w.heap.size < v3.heap.size := by omega); (try have hm3_0 : ¬ w.heap.size = v3.heap.size := by omega); (try have hn3_0 : ¬ v3.heap.size = w.heap.size := by omega); have hC3_1 := fun o => (calm_cells hB3).1 (w.heap.size + 1) o (by first | omega | (simp <;> omega)); have hF3_1 := fun o => (calm_cells hB3).2 (w.heap.size + 1) o (by first | omega | (simp <;> omega)); (try have hl3_1 : w.heap.size + 1 < v3.heap.size := by omega); (try have hm3_1 : ¬ w.heap.size + 1 = v3.heap.size := by omega); (try have hn3_1 : ¬ v3.heap.size = w.heap.size + 1 := by omega); have hC3_2 := fun o => (calm_cells hB3).1 (w.heap.size + 1 + 1) o (by first | omega | (simp <;> omega)); have hF3_2 := fun o => (calm_cells hB3).2 (w.heap.size + 1 + 1) o (by first | omega | (simp <;> omega)); (try have hl3_2 : w.heap.size + 1 + 1 < v3.heap.size := by omega); (try have hm3_2 : ¬ w.heap.size + 1 + 1 = v3.heap.size := by omega); (try have hn3_2 : ¬ v3.heap.size = w.heap.size + 1 + 1 := by omega))
    | (go_at_call 86; (with_reducible refine (nuMod_any P (2 * E) _ (by omega) (by omega)).mono ?_); rintro e v ⟨rfl, rfl⟩))
  clear hBz hVal hPol
  have k2 : ¬ w.heap.size = w.heap.size + 1 + 1 := by omega
  have k3 : ¬ w.heap.size + 1 + 1 = w.heap.size := by omega
  go_region_held3 (fun w' => w'.cell? ⟨w.heap.size, 0, none⟩ = some (.int .i64 (a)) ∧ w'.cell? ⟨w.heap.size, 1, none⟩ = some (.int .i64 (b)) ∧ w'.cell? ⟨w.heap.size, 2, none⟩ = some (.int .i64 (c)) ∧ w'.cell? ⟨v3.heap.size, 0, none⟩ = some (.int .i64 (x)) ∧ w'.cell? ⟨v3.heap.size, 1, none⟩ = some (.int .i64 (Q + T * x)) ∧ w'.cell? ⟨v3.heap.size, 2, none⟩ = some (.int .i64 (y)) ∧ w'.cell? ⟨v3.heap.size, 3, none⟩ = some (.int .i64 (S + T * y))) (first | (go_keep; done) | (go_simp; done)) ((go_at_call 72; (with_reducible refine (hDis.out _).mono ?_); rintro e h4 ⟨rfl, hb4⟩; have hcc := (calm_cells hb4).1; have hff := (calm_cells hb4).2; have hsz4 := hb4.size; (try simp at hsz4); have g4_0 := fun o => hcc (w.heap.size) o (by first | omega | (simp <;> omega)); have g4_1 := fun o => hff (w.heap.size) o (by first | omega | (simp <;> omega)); have g4_2 := fun o => hcc (v3.heap.size) o (by first | omega | (simp <;> omega)); have g4_3 := fun o => hff (v3.heap.size) o (by first | omega | (simp <;> omega)); have g4_4 := fun o => hcc (w.heap.size + 1) o (by first | omega | (simp <;> omega)); have g4_5 := fun o => hff (w.heap.size + 1) o (by first | omega | (simp <;> omega)); have g4_6 := fun o => hcc (w.heap.size + 1 + 1) o (by first | omega | (simp <;> omega)); have g4_7 := fun o => hff (w.heap.size + 1 + 1) o (by first | omega | (simp <;> omega)); clear hcc hff))
  go_wp2
  exact bodyPost_ret (v := .tuple #[.agg #[.int .i64 E, .int .i64 P2, .int .i64 R2], .agg #[.int .i64 x, .int .i64 (Q + T * x), .int .i64 y, .int .i64 (S + T * y)]]) (by simp [results, Try.results151, go_sem, *]) rfl ⟨rfl, (by repeat (first | with_reducible exact Below.refl _ _ | with_reducible assumption | with_reducible apply Below.drew | with_reducible apply below_drewN | (with_reducible apply below_setp; (first | omega | (simp <;> omega))) | (with_reducible apply below_allocp; (first | omega | (simp <;> omega))) | (with_reducible refine below_viap (by assumption) ?_ ?_; (first | omega | (simp <;> omega)))))⟩
end Go.Proofs.Ytifkmjmhhklkjaa
