/- Contracts: a point is completed to a matrix, for all shown forms, by the reference. -/
import Derived.Test.YtkpiiicefmkhcaaIJ
import Derived.Test.YtkpiiicefmkhcaaUA
import Derived.Test.YtkpiiicefmkhcaaIV
namespace Go.Proofs.Ytkpiiicefmkhcaa
open Go.RowKit

set_option maxRecDepth 100000 in
set_option maxHeartbeats 800000 in
theorem nuBez2_any (a b c x y S Q T E P : Int) (w : World) (h : CpD a b c x y S Q T E P) :
    Calls Try.prog 252 #[.int .i64 x, .int .i64 y] w fun e w' => e = .returned (.tuple #[.int .i64 1, .int .i64 S, .int .i64 (-Q)]) ∧ Below w.heap.size w w' := by
  obtain ⟨x1, x2⟩ := h.hx; obtain ⟨y1, y2⟩ := h.hy
  obtain ⟨bid, ⟨s1, s2⟩, ⟨q1, q2⟩⟩ := h.SQ
  have hg := h.hg
  have eS := h.eS
  have eQ := h.eQ
  clear h
  by_cases h0 : y = 0
  · subst h0
    have e1' : Q = 0 := by rw [eQ]; unfold cpQ; rw [if_pos rfl]
    have e2' : S = x := by rw [eS]; unfold cpS; rw [if_pos rfl]
    subst e1'
    subst e2'
    clear eS eQ
    have hs : S = 1 ∨ S = -1 := by simp at hg; omega
    have Hg := Lib.hid hg; clear hg
    rcases hs with rfl | rfl
    all_goals
      go_enter Try.func252, Try.ntmps252
      go_wp2_with (first | (go_at_call 169; (with_reducible refine (nuGcd_one _ _ _ (by omega) (by omega) (by omega) (by omega) Hg.out).mono ?_); rintro e v ⟨rfl, nq, rfl⟩) | (go_at_call 255; (with_reducible refine (l1Sign_any _ _).mono ?_); rintro e v ⟨rfl, rfl⟩) | go_in)
      go_ret3
      exact ⟨rfl, (by repeat (first | with_reducible exact Below.refl _ _ | with_reducible assumption | with_reducible apply Below.drew | with_reducible apply below_drewN | (with_reducible apply below_setp; (first | omega | (simp <;> omega))) | (with_reducible apply below_allocp; (first | omega | (simp <;> omega))) | (with_reducible refine below_viap (by assumption) ?_ ?_; (first | omega | (simp <;> omega)))))⟩
  · have hc := fun w => nuInverse_c x (y.natAbs : Nat) w (by omega) (by omega) (by rw [Int.gcd_eq_natAbs_gcd_natAbs] at hg ⊢; simpa using hg)
    have e2' : S = invF x (y.natAbs : Nat) := by rw [eS]; unfold cpS; rw [if_neg h0]
    rw [← e2'] at hc
    have Hc := Lib.hid hc
    have b0 := mul_bd (a := x) (x := S) (A := 1000) (X := 1000) (by omega) (by omega) (by omega) (by omega)
    obtain ⟨b1, b2⟩ := b0
    have e0 : (1 - x * S).tdiv y = -Q := by
      rw [show 1 - x * S = -Q * y by have := Int.neg_mul Q y; omega, Int.mul_tdiv_cancel _ h0]
    have e1' : (y == 0) = false := by rw [beq_eq_false_iff_ne]; exact h0
    have Hg := Lib.hid hg
    clear bid eS eQ hc e2' hg
    generalize hV : -Q = V at *
    have hV1 : -1001 ≤ V ∧ V ≤ 1001 := by omega
    obtain ⟨V0, V1⟩ := hV1
    clear hV
    have wx : IntKind.i64.wrap x = x := IntWalk.i64_in _ (by omega)
    have wy : IntKind.i64.wrap y = y := IntWalk.i64_in _ (by omega)
    have wz : IntKind.i64.wrap ((y.natAbs : Nat) : Int) = ((y.natAbs : Nat) : Int) := IntWalk.i64_in _ (by omega)
    have wp : IntKind.i64.wrap (x * S) = x * S := IntWalk.i64_in _ (by omega)
    have wq : IntKind.i64.wrap (1 - x * S) = 1 - x * S := IntWalk.i64_in _ (by omega)
    have wv : IntKind.i64.wrap V = V := IntWalk.i64_in _ (by omega)
    go_enter Try.func252, Try.ntmps252
    go_wp2_with (first | (go_at_call 169; (with_reducible refine (nuGcd_one _ _ _ (by omega) (by omega) (by omega) (by omega) Hg.out).mono ?_); rintro e v ⟨rfl, nq, rfl⟩))
    refine wp_region_calm 9 (Below (w.heap.size) _) (by kernel_rfl) (by kernel_rfl) ((Below.refl _ _).drew) ?_
    simp only [List.take_succ_cons, List.take_zero, List.drop_succ_cons, List.drop_zero]
    repeat (first | (apply wpCalm_go; go_simp; (intro w' hw' hcc hff; go_simp; first | exact rfl | (refine (l1Abs_any _ _ (by omega) (by omega)).mono ?_; rintro e w1 ⟨rfl, hb⟩; exact ⟨rfl, calm_call_same hw' hb⟩) | ((with_reducible refine (Hc.out _).mono ?_); rintro e w1 ⟨rfl, hb⟩; exact ⟨rfl, calm_call_same hw' hb⟩)); (intro K hK; go_simp; refine hK _ ?_; clear hK K)) | (apply wpCalm_skip; go_simp; (try (focus (simp [undef]; done))); (intro K hK; go_simp; refine hK _ ?_; clear hK K)))
    refine wpCalm_nil ?_
    intro w1 hw1
    have hcc := (calm_cells hw1).1
    have hff := (calm_cells hw1).2
    have hss := calm_size hw1
    have hsz := hw1.size
    (try simp at hsz)
    go_wp2
    refine wp_region_calm 12 (Below (w.heap.size) _) (by kernel_rfl) (by kernel_rfl) ((Below.refl _ _).drew) ?_
    simp only [List.take_succ_cons, List.take_zero, List.drop_succ_cons, List.drop_zero]
    repeat (first | (apply wpCalm_go; go_simp; (intro w' hw' hcc hff; go_simp; first | exact rfl | fail); (intro K hK; go_simp; refine hK _ ?_; clear hK K)) | (apply wpCalm_skip; go_simp; (try (focus (simp [undef]; done))); (intro K hK; go_simp; refine hK _ ?_; clear hK K)))
    refine wpCalm_nil ?_
    intro w1 hw1
    have hcc := (calm_cells hw1).1
    have hff := (calm_cells hw1).2
    have hss := calm_size hw1
    have hsz := hw1.size
    (try simp at hsz)
    go_wp2
    go_ret3
    exact ⟨rfl, (by repeat (first | with_reducible exact Below.refl _ _ | with_reducible assumption | with_reducible apply Below.drew | with_reducible apply below_drewN | (with_reducible apply below_setp; (first | omega | (simp <;> omega))) | (with_reducible apply below_allocp; (first | omega | (simp <;> omega))) | (with_reducible refine below_viap (by assumption) ?_ ?_; (first | omega | (simp <;> omega)))))⟩

set_option maxRecDepth 100000 in
set_option maxHeartbeats 1600000 in
theorem vaComp2_any (a b c x y S Q T E P : Int) (w : World) (h : CpD a b c x y S Q T E P) (hE6 : E ≤ 1000000) :
    Calls Try.prog 243 #[.agg #[.int .i64 a, .int .i64 b, .int .i64 c], .int .i64 x, .int .i64 y] w fun e w' =>
      e = .returned (.tuple #[.agg #[.int .i64 E, .int .i64 (P % (2 * E)), .int .i64 (atF a b c (Q + T * x) (S + T * y))], .agg #[.int .i64 x, .int .i64 (Q + T * x), .int .i64 y, .int .i64 (S + T * y)]]) ∧ Below w.heap.size w w' := by
  obtain ⟨f1, f2, -⟩ := h.ok
  obtain ⟨e1, e2⟩ := h.E0
  obtain ⟨p1, p2⟩ := h.P0
  obtain ⟨t1, t2⟩ := h.T0
  obtain ⟨⟨m1, m2⟩, ⟨n1, n2⟩⟩ := h.TX
  obtain ⟨x1, x2⟩ := h.hx; obtain ⟨y1, y2⟩ := h.hy
  obtain ⟨-, ⟨s1, s2⟩, ⟨q1, q2⟩⟩ := h.SQ
  obtain ⟨d1, d2⟩ := h.D0
  obtain ⟨c1, c2⟩ := h.C1
  have hC := h.C
  have hbm := h.hbm.2
  obtain ⟨g1, g2, g3⟩ := fm_prods (ishown_form h.hs)
  have hBz := Lib.hid (fun w => nuBez2_any a b c x y S Q T E P w h)
  have hVal := Lib.hid (fun w => (show Calls Try.prog 111 #[.agg #[.int .i64 a, .int .i64 b, .int .i64 c], .int .i64 x, .int .i64 y] w fun e w' => e = .returned (.int .i64 E) ∧ Below w.heap.size w w' from by rw [h.eE]; exact foValue_any a b c x y w f1))
  have hPol := Lib.hid (fun w => (show Calls Try.prog 210 #[.agg #[.int .i64 a, .int .i64 b, .int .i64 c], .int .i64 x, .int .i64 y, .int .i64 Q, .int .i64 S] w fun e w' => e = .returned (.int .i64 P) ∧ Below w.heap.size w w' from by rw [h.eP]; exact foPolar_any a b c x y Q S w f2))
  have hDis := Lib.hid (fun w => sdisc_any a b c w g1 g2 g3)
  generalize disc ⟨a, b, c⟩ = D at *
  generalize atF a b c (Q + T * x) (S + T * y) = R2 at *
  have eE : (2 * E == 0) = false := by rw [beq_eq_false_iff_ne]; omega
  have eE2 : ¬ 2 * E = 0 := by omega
  have eF : (4 * E == 0) = false := by rw [beq_eq_false_iff_ne]; omega
  have eF2 : ¬ 4 * E = 0 := by omega
  have em1 := Int.emod_nonneg P eE2
  have em2 := Int.emod_lt_of_pos P (show 0 < 2 * E by omega)
  have eT2 : (P % (2 * E) - P).tdiv (2 * E) = T := by
    have : P % (2 * E) - P = 2 * E * T := by omega
    rw [this, Int.mul_tdiv_cancel_left _ eE2]
  have hMd := Lib.hid (fun w => nuMod_any P (2 * E) w (by omega) (by omega))
  generalize P % (2 * E) = P2 at *
  have eT3 : -10000000000000 ≤ 2 * E * T ∧ 2 * E * T ≤ 10000000000000 := by omega
  obtain ⟨eT3, eT4⟩ := eT3
  have eR : (P2 * P2 - D).tdiv (4 * E) = R2 := by
    rw [hC, Int.mul_tdiv_cancel_left _ eF2]
  have ePP := mul_bd (a := P2) (x := P2) (A := 2000000) (X := 2000000) (by omega) (by omega) (by omega) (by omega)
  obtain ⟨pp1, pp2⟩ := ePP
  have w1 : IntKind.i64.wrap (P2 * P2) = P2 * P2 := IntWalk.i64_in _ (by omega)
  have w2 : IntKind.i64.wrap (P2 * P2 - D) = P2 * P2 - D := IntWalk.i64_in _ (by omega)
  have w3 : IntKind.i64.wrap (4 * E) = 4 * E := IntWalk.i64_in _ (by omega)
  have w4 : IntKind.i64.wrap R2 = R2 := IntWalk.i64_in _ (by omega)
  have ex1 : x * T = T * x := Int.mul_comm _ _
  have ex2 : y * T = T * y := Int.mul_comm _ _
  clear h hC f1 f2 g1 g2 g3
  go_enter Try.func243, Try.ntmps243
  go_wp2_with (first
    | (go_at_call 252; (with_reducible refine (hBz.out _).mono ?_); rintro e v1 ⟨rfl, hB1⟩; have hZ1 := hB1.size; (try simp at hZ1); (try have zl1 : w.heap.size < v1.heap.size := by omega); (try have ze1 : w.heap.size ≤ v1.heap.size := by omega); (try have zn1 : ¬ w.heap.size = v1.heap.size := by omega); (try have zm1 : ¬ v1.heap.size = w.heap.size := by omega); have hC1_0 := fun o => (calm_cells hB1).1 (w.heap.size) o (by first | omega | (simp <;> omega)); have hF1_0 := fun o => (calm_cells hB1).2 (w.heap.size) o (by first | omega | (simp <;> omega)); (try have hl1_0 : w.heap.size < v1.heap.size := by omega); (try have hm1_0 : ¬ w.heap.size = v1.heap.size := by omega); (try have hn1_0 : ¬ v1.heap.size = w.heap.size := by omega); have hC1_1 := fun o => (calm_cells hB1).1 (w.heap.size + 1) o (by first | omega | (simp <;> omega)); have hF1_1 := fun o => (calm_cells hB1).2 (w.heap.size + 1) o (by first | omega | (simp <;> omega)); (try have hl1_1 : w.heap.size + 1 < v1.heap.size := by omega); (try have hm1_1 : ¬ w.heap.size + 1 = v1.heap.size := by omega); (try have hn1_1 : ¬ v1.heap.size = w.heap.size + 1 := by omega); have hC1_2 := fun o => (calm_cells hB1).1 (w.heap.size + 1 + 1) o (by first | omega | (simp <;> omega)); have hF1_2 := fun o => (calm_cells hB1).2 (w.heap.size + 1 + 1) o (by first | omega | (simp <;> omega)); (try have hl1_2 : w.heap.size + 1 + 1 < v1.heap.size := by omega); (try have hm1_2 : ¬ w.heap.size + 1 + 1 = v1.heap.size := by omega); (try have hn1_2 : ¬ v1.heap.size = w.heap.size + 1 + 1 := by omega))
    | (go_at_call 111; (with_reducible refine (hVal.out _).mono ?_); rintro e v2 ⟨rfl, hB2⟩; have hZ2 := hB2.size; (try simp at hZ2); (try have zl2 : w.heap.size < v2.heap.size := by omega); (try have ze2 : w.heap.size ≤ v2.heap.size := by omega); (try have zn2 : ¬ w.heap.size = v2.heap.size := by omega); (try have zm2 : ¬ v2.heap.size = w.heap.size := by omega); have hC2_0 := fun o => (calm_cells hB2).1 (w.heap.size) o (by first | omega | (simp <;> omega)); have hF2_0 := fun o => (calm_cells hB2).2 (w.heap.size) o (by first | omega | (simp <;> omega)); (try have hl2_0 : w.heap.size < v2.heap.size := by omega); (try have hm2_0 : ¬ w.heap.size = v2.heap.size := by omega); (try have hn2_0 : ¬ v2.heap.size = w.heap.size := by omega); have hC2_1 := fun o => (calm_cells hB2).1 (w.heap.size + 1) o (by first | omega | (simp <;> omega)); have hF2_1 := fun o => (calm_cells hB2).2 (w.heap.size + 1) o (by first | omega | (simp <;> omega)); (try have hl2_1 : w.heap.size + 1 < v2.heap.size := by omega); (try have hm2_1 : ¬ w.heap.size + 1 = v2.heap.size := by omega); (try have hn2_1 : ¬ v2.heap.size = w.heap.size + 1 := by omega); have hC2_2 := fun o => (calm_cells hB2).1 (w.heap.size + 1 + 1) o (by first | omega | (simp <;> omega)); have hF2_2 := fun o => (calm_cells hB2).2 (w.heap.size + 1 + 1) o (by first | omega | (simp <;> omega)); (try have hl2_2 : w.heap.size + 1 + 1 < v2.heap.size := by omega); (try have hm2_2 : ¬ w.heap.size + 1 + 1 = v2.heap.size := by omega); (try have hn2_2 : ¬ v2.heap.size = w.heap.size + 1 + 1 := by omega))
    | (go_at_call 210; (with_reducible refine (hPol.out _).mono ?_); rintro e v3 ⟨rfl, hB3⟩; have hZ3 := hB3.size; (try simp at hZ3); (try have zl3 : w.heap.size < v3.heap.size := by omega); (try have ze3 : w.heap.size ≤ v3.heap.size := by omega); (try have zn3 : ¬ w.heap.size = v3.heap.size := by omega); (try have zm3 : ¬ v3.heap.size = w.heap.size := by omega); have hC3_0 := fun o => (calm_cells hB3).1 (w.heap.size) o (by first | omega | (simp <;> omega)); have hF3_0 := fun o => (calm_cells hB3).2 (w.heap.size) o (by first | omega | (simp <;> omega)); (try have hl3_0 : w.heap.size < v3.heap.size := by omega); (try have hm3_0 : ¬ w.heap.size = v3.heap.size := by omega); (try have hn3_0 : ¬ v3.heap.size = w.heap.size := by omega); have hC3_1 := fun o => (calm_cells hB3).1 (w.heap.size + 1) o (by first | omega | (simp <;> omega)); have hF3_1 := fun o => (calm_cells hB3).2 (w.heap.size + 1) o (by first | omega | (simp <;> omega)); (try have hl3_1 : w.heap.size + 1 < v3.heap.size := by omega); (try have hm3_1 : ¬ w.heap.size + 1 = v3.heap.size := by omega); (try have hn3_1 : ¬ v3.heap.size = w.heap.size + 1 := by omega); have hC3_2 := fun o => (calm_cells hB3).1 (w.heap.size + 1 + 1) o (by first | omega | (simp <;> omega)); have hF3_2 := fun o => (calm_cells hB3).2 (w.heap.size + 1 + 1) o (by first | omega | (simp <;> omega)); (try have hl3_2 : w.heap.size + 1 + 1 < v3.heap.size := by omega); (try have hm3_2 : ¬ w.heap.size + 1 + 1 = v3.heap.size := by omega); (try have hn3_2 : ¬ v3.heap.size = w.heap.size + 1 + 1 := by omega))
    | (go_at_call 127; (with_reducible refine (hMd.out _).mono ?_); rintro e v ⟨rfl, rfl⟩))
  clear hBz hVal hPol
  have k2 : ¬ w.heap.size = w.heap.size + 1 + 1 := by omega
  have k3 : ¬ w.heap.size + 1 + 1 = w.heap.size := by omega
  go_region_held3 (fun w' => w'.cell? ⟨w.heap.size, 0, none⟩ = some (.int .i64 (a)) ∧ w'.cell? ⟨w.heap.size, 1, none⟩ = some (.int .i64 (b)) ∧ w'.cell? ⟨w.heap.size, 2, none⟩ = some (.int .i64 (c)) ∧ w'.cell? ⟨v3.heap.size, 0, none⟩ = some (.int .i64 (x)) ∧ w'.cell? ⟨v3.heap.size, 1, none⟩ = some (.int .i64 (Q + T * x)) ∧ w'.cell? ⟨v3.heap.size, 2, none⟩ = some (.int .i64 (y)) ∧ w'.cell? ⟨v3.heap.size, 3, none⟩ = some (.int .i64 (S + T * y))) (first | (go_keep; done) | (go_simp; done)) ((go_at_call 148; (with_reducible refine (hDis.out _).mono ?_); rintro e h4 ⟨rfl, hb4⟩; have hcc := (calm_cells hb4).1; have hff := (calm_cells hb4).2; have hsz4 := hb4.size; (try simp at hsz4); have g4_0 := fun o => hcc (w.heap.size) o (by first | omega | (simp <;> omega)); have g4_1 := fun o => hff (w.heap.size) o (by first | omega | (simp <;> omega)); have g4_2 := fun o => hcc (v3.heap.size) o (by first | omega | (simp <;> omega)); have g4_3 := fun o => hff (v3.heap.size) o (by first | omega | (simp <;> omega)); have g4_4 := fun o => hcc (w.heap.size + 1) o (by first | omega | (simp <;> omega)); have g4_5 := fun o => hff (w.heap.size + 1) o (by first | omega | (simp <;> omega)); have g4_6 := fun o => hcc (w.heap.size + 1 + 1) o (by first | omega | (simp <;> omega)); have g4_7 := fun o => hff (w.heap.size + 1 + 1) o (by first | omega | (simp <;> omega)); clear hcc hff))
  go_wp2
  exact bodyPost_ret (v := .tuple #[.agg #[.int .i64 E, .int .i64 P2, .int .i64 R2], .agg #[.int .i64 x, .int .i64 (Q + T * x), .int .i64 y, .int .i64 (S + T * y)]]) (by simp [results, Try.results243, go_sem, *]) rfl ⟨rfl, (by repeat (first | with_reducible exact Below.refl _ _ | with_reducible assumption | with_reducible apply Below.drew | with_reducible apply below_drewN | (with_reducible apply below_setp; (first | omega | (simp <;> omega))) | (with_reducible apply below_allocp; (first | omega | (simp <;> omega))) | (with_reducible refine below_viap (by assumption) ?_ ?_; (first | omega | (simp <;> omega)))))⟩
end Go.Proofs.Ytkpiiicefmkhcaa
