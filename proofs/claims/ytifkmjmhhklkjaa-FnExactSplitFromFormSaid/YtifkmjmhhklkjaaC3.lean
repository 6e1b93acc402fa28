/- Contracts of the reduction of definite forms. -/
import Derived.Test.YtifkmjmhhklkjaaC2
namespace Go.Proofs.Ytifkmjmhhklkjaa
open Go.RowKit

theorem isRed_norm {a b c : Int} (h : isNorm a b = false) : isRed a b c = false := by simp [isRed, h]

set_option maxHeartbeats 800000 in
theorem isReduced_any (a b c : Int) (w : World) (ha : 0 < a) (ha2 : a ≤ 2000000000000000000) :
    Calls Try.prog 122 #[.agg #[.int .i64 a, .int .i64 b, .int .i64 c]] w fun e w' => e = .returned (.bool (isRed a b c)) ∧ Below w.heap.size w w' := by
  cases hn : isNorm a b with
  | false =>
    rw [isRed_norm hn]
    go_enter Try.func122, Try.ntmps122
    go_wp2_with (go_at_call 145; refine (isNormal_any a b c _ ha ha2).mono ?_; rw [hn]; rintro e w1 ⟨rfl, hb⟩; have hcc := (calm_cells hb).1)
    go_ret
    exact ⟨ret_bool (by first | (simp; done) | (simp; omega) | (rw [Bool.eq_iff_iff]; simp; omega) | (simp_all; done) | (simp_all; omega)), (by repeat (first | with_reducible exact Below.refl _ _ | with_reducible assumption | with_reducible apply Below.drew | with_reducible apply below_drewN | (with_reducible apply below_setp; (first | omega | (simp <;> omega))) | (with_reducible apply below_allocp; (first | omega | (simp <;> omega))) | (with_reducible refine below_viap (by assumption) ?_ ?_; (first | omega | (simp <;> omega)))))⟩
  | true =>
    by_cases h1 : a < c
    · have e : isRed a b c = true := by simp [isRed, hn, h1]
      rw [e]; clear e
      go_enter Try.func122, Try.ntmps122
      go_wp2_with (go_at_call 145; refine (isNormal_any a b c _ ha ha2).mono ?_; rw [hn]; rintro e w1 ⟨rfl, hb⟩; have hcc := (calm_cells hb).1)
      go_ret
      exact ⟨ret_bool (by first | (simp; done) | (simp; omega) | (rw [Bool.eq_iff_iff]; simp; omega) | (simp_all; done) | (simp_all; omega)), (by repeat (first | with_reducible exact Below.refl _ _ | with_reducible assumption | with_reducible apply Below.drew | with_reducible apply below_drewN | (with_reducible apply below_setp; (first | omega | (simp <;> omega))) | (with_reducible apply below_allocp; (first | omega | (simp <;> omega))) | (with_reducible refine below_viap (by assumption) ?_ ?_; (first | omega | (simp <;> omega)))))⟩
    · by_cases h2 : a = c
      · have h2' : (a == c) = true := by simp [h2]
        by_cases h3 : 0 ≤ b
        · have e : isRed a b c = true := by simp only [isRed, hn]; simp; omega
          rw [e]; clear e h2
          go_enter Try.func122, Try.ntmps122
          go_wp2_with (go_at_call 145; refine (isNormal_any a b c _ ha ha2).mono ?_; rw [hn]; rintro e w1 ⟨rfl, hb⟩; have hcc := (calm_cells hb).1)
          go_ret
          exact ⟨ret_bool (by first | (simp; done) | (simp; omega) | (rw [Bool.eq_iff_iff]; simp; omega) | (simp_all; done) | (simp_all; omega)), (by repeat (first | with_reducible exact Below.refl _ _ | with_reducible assumption | with_reducible apply Below.drew | with_reducible apply below_drewN | (with_reducible apply below_setp; (first | omega | (simp <;> omega))) | (with_reducible apply below_allocp; (first | omega | (simp <;> omega))) | (with_reducible refine below_viap (by assumption) ?_ ?_; (first | omega | (simp <;> omega)))))⟩
        · have e : isRed a b c = false := by simp [isRed, hn, h1, h3]
          rw [e]; clear e h2
          go_enter Try.func122, Try.ntmps122
          go_wp2_with (go_at_call 145; refine (isNormal_any a b c _ ha ha2).mono ?_; rw [hn]; rintro e w1 ⟨rfl, hb⟩; have hcc := (calm_cells hb).1)
          go_ret
          exact ⟨ret_bool (by first | (simp; done) | (simp; omega) | (rw [Bool.eq_iff_iff]; simp; omega) | (simp_all; done) | (simp_all; omega)), (by repeat (first | with_reducible exact Below.refl _ _ | with_reducible assumption | with_reducible apply Below.drew | with_reducible apply below_drewN | (with_reducible apply below_setp; (first | omega | (simp <;> omega))) | (with_reducible apply below_allocp; (first | omega | (simp <;> omega))) | (with_reducible refine below_viap (by assumption) ?_ ?_; (first | omega | (simp <;> omega)))))⟩
      · have h2' : (a == c) = false := by simp [h2]
        have e : isRed a b c = false := by simp [isRed, hn, h1, h2]
        rw [e]; clear e h2
        go_enter Try.func122, Try.ntmps122
        go_wp2_with (go_at_call 145; refine (isNormal_any a b c _ ha ha2).mono ?_; rw [hn]; rintro e w1 ⟨rfl, hb⟩; have hcc := (calm_cells hb).1)
        go_ret
        exact ⟨ret_bool (by first | (simp; done) | (simp; omega) | (rw [Bool.eq_iff_iff]; simp; omega) | (simp_all; done) | (simp_all; omega)), (by repeat (first | with_reducible exact Below.refl _ _ | with_reducible assumption | with_reducible apply Below.drew | with_reducible apply below_drewN | (with_reducible apply below_setp; (first | omega | (simp <;> omega))) | (with_reducible apply below_allocp; (first | omega | (simp <;> omega))) | (with_reducible refine below_viap (by assumption) ?_ ?_; (first | omega | (simp <;> omega)))))⟩

set_option maxHeartbeats 800000 in
theorem reIs_any (a b c : Int) (w : World) (ha : 0 < a) (ha2 : a ≤ 2000000000000000000) :
    Calls Try.prog 116 #[.agg #[.int .i64 a, .int .i64 b, .int .i64 c]] w fun e w' => e = .returned (.bool (isRed a b c)) ∧ Below w.heap.size w w' := by
  by_cases k1 : -a < b
  · by_cases k2 : b ≤ a
    · by_cases h1 : a < c
      · have e : isRed a b c = true := by rw [isRed_iff]; omega
        rw [e]; clear e
        go_enter Try.func116, Try.ntmps116
        go_wp2
        go_ret
        exact ⟨ret_bool (by first | (simp; done) | (simp; omega) | (rw [Bool.eq_iff_iff]; simp; omega) | (simp_all; done) | (simp_all; omega)), (by repeat (first | with_reducible exact Below.refl _ _ | with_reducible assumption | with_reducible apply Below.drew | with_reducible apply below_drewN | (with_reducible apply below_setp; (first | omega | (simp <;> omega))) | (with_reducible apply below_allocp; (first | omega | (simp <;> omega))) | (with_reducible refine below_viap (by assumption) ?_ ?_; (first | omega | (simp <;> omega)))))⟩
      · by_cases h2 : a = c
        · have h2' : (a == c) = true := by simp [h2]
          by_cases h3 : 0 ≤ b
          · have e : isRed a b c = true := by rw [isRed_iff]; omega
            rw [e]; clear e h2
            go_enter Try.func116, Try.ntmps116
            go_wp2
            go_ret
            exact ⟨ret_bool (by first | (simp; done) | (simp; omega) | (rw [Bool.eq_iff_iff]; simp; omega) | (simp_all; done) | (simp_all; omega)), (by repeat (first | with_reducible exact Below.refl _ _ | with_reducible assumption | with_reducible apply Below.drew | with_reducible apply below_drewN | (with_reducible apply below_setp; (first | omega | (simp <;> omega))) | (with_reducible apply below_allocp; (first | omega | (simp <;> omega))) | (with_reducible refine below_viap (by assumption) ?_ ?_; (first | omega | (simp <;> omega)))))⟩
          · have e : isRed a b c = false := by rw [← Bool.not_eq_true, isRed_iff]; omega
            rw [e]; clear e h2
            go_enter Try.func116, Try.ntmps116
            go_wp2
            go_ret
            exact ⟨ret_bool (by first | (simp; done) | (simp; omega) | (rw [Bool.eq_iff_iff]; simp; omega) | (simp_all; done) | (simp_all; omega)), (by repeat (first | with_reducible exact Below.refl _ _ | with_reducible assumption | with_reducible apply Below.drew | with_reducible apply below_drewN | (with_reducible apply below_setp; (first | omega | (simp <;> omega))) | (with_reducible apply below_allocp; (first | omega | (simp <;> omega))) | (with_reducible refine below_viap (by assumption) ?_ ?_; (first | omega | (simp <;> omega)))))⟩
        · have h2' : (a == c) = false := by simp [h2]
          have e : isRed a b c = false := by rw [← Bool.not_eq_true, isRed_iff]; omega
          rw [e]; clear e h2
          go_enter Try.func116, Try.ntmps116
          go_wp2
          go_ret
          exact ⟨ret_bool (by first | (simp; done) | (simp; omega) | (rw [Bool.eq_iff_iff]; simp; omega) | (simp_all; done) | (simp_all; omega)), (by repeat (first | with_reducible exact Below.refl _ _ | with_reducible assumption | with_reducible apply Below.drew | with_reducible apply below_drewN | (with_reducible apply below_setp; (first | omega | (simp <;> omega))) | (with_reducible apply below_allocp; (first | omega | (simp <;> omega))) | (with_reducible refine below_viap (by assumption) ?_ ?_; (first | omega | (simp <;> omega)))))⟩
    · have e : isRed a b c = false := by rw [← Bool.not_eq_true, isRed_iff]; omega
      rw [e]; clear e
      go_enter Try.func116, Try.ntmps116
      go_wp2
      go_ret
      exact ⟨ret_bool (by first | (simp; done) | (simp; omega) | (rw [Bool.eq_iff_iff]; simp; omega) | (simp_all; done) | (simp_all; omega)), (by repeat (first | with_reducible exact Below.refl _ _ | with_reducible assumption | with_reducible apply Below.drew | with_reducible apply below_drewN | (with_reducible apply below_setp; (first | omega | (simp <;> omega))) | (with_reducible apply below_allocp; (first | omega | (simp <;> omega))) | (with_reducible refine below_viap (by assumption) ?_ ?_; (first | omega | (simp <;> omega)))))⟩
  · have e : isRed a b c = false := by rw [← Bool.not_eq_true, isRed_iff]; omega
    rw [e]; clear e
    go_enter Try.func116, Try.ntmps116
    go_wp2
    go_ret
    exact ⟨ret_bool (by first | (simp; done) | (simp; omega) | (rw [Bool.eq_iff_iff]; simp; omega) | (simp_all; done) | (simp_all; omega)), (by repeat (first | with_reducible exact Below.refl _ _ | with_reducible assumption | with_reducible apply Below.drew | with_reducible apply below_drewN | (with_reducible apply below_setp; (first | omega | (simp <;> omega))) | (with_reducible apply below_allocp; (first | omega | (simp <;> omega))) | (with_reducible refine below_viap (by assumption) ?_ ?_; (first | omega | (simp <;> omega)))))⟩

set_option maxHeartbeats 800000 in
theorem reNormal_any (a b c : Int) (w : World) (ha : 0 < a) (ha2 : a ≤ 1000000000000000000) (hb1 : -1000000000000000000 ≤ b) (hb2 : b ≤ 1000000000000000000) :
    Calls Try.prog 143 #[.agg #[.int .i64 a, .int .i64 b, .int .i64 c]] w fun e w' => e = .returned (.int .i64 (tr a b)) ∧ Below w.heap.size w w' := by
  have h1 := Int.emod_nonneg (a - b) (show 2 * a ≠ 0 by omega)
  have h2 := Int.emod_lt_of_pos (a - b) (show 0 < 2 * a by omega)
  have h3 := Lib.hid (floor_tdiv (a := a - b) (show 0 < 2 * a by omega))
  have h4 : (2 * a == 0) = false := by rw [beq_eq_false_iff_ne]; omega
  have h5 : ¬ 2 * a = 0 := by omega
  have w1 : IntKind.i64.wrap (a - b) = a - b := IntWalk.i64_in _ (by omega)
  have w2 : IntKind.i64.wrap (2 * a) = 2 * a := IntWalk.i64_in _ (by omega)
  have w3 : IntKind.i64.wrap (a - b - (a - b) % (2 * a)) = a - b - (a - b) % (2 * a) := IntWalk.i64_in _ (by omega)
  have w4 : IntKind.i64.wrap ((a - b - (a - b) % (2 * a)).tdiv (2 * a)) = (a - b - (a - b) % (2 * a)).tdiv (2 * a) := IntWalk.i64_in _ (by
    have := tdiv_bd (a := a - b - (a - b) % (2 * a)) (m := 2 * a) (K := 8000000000000000000) (by omega) (by omega)
    omega)
  go_enter Try.func143, Try.ntmps143
  go_wp2
  refine wp_region_calm 20 (Below (w.heap.size + 1) _) (by kernel_rfl) (by kernel_rfl) ((Below.refl _ _).drew) ?_
  simp only [List.take_succ_cons, List.take_zero, List.drop_succ_cons, List.drop_zero]
  repeat (first | (apply wpCalm_go; go_simp; (intro w' hw' hcc hff; go_simp; first | exact rfl | (refine (nuMod_any _ _ _ (by omega) (by omega)).mono ?_; rintro e w1 ⟨rfl, hb⟩; exact ⟨rfl, calm_call_same hw' hb⟩)); (intro K hK; go_simp; refine hK _ ?_; clear hK K)) | (apply wpCalm_skip; go_simp; (intro K hK; go_simp; refine hK _ ?_; clear hK K)))
  refine wpCalm_nil ?_
  intro w1 hw1
  have hcc := (calm_cells hw1).1
  have hff := (calm_cells hw1).2
  have hss := calm_size hw1
  have hsz := hw1.size
  (try simp at hsz)
  go_wp2
  go_ret
  exact ⟨ret_int h3.out, (by repeat (first | with_reducible exact Below.refl _ _ | with_reducible assumption | with_reducible apply Below.drew | with_reducible apply below_drewN | (with_reducible apply below_setp; (first | omega | (simp <;> omega))) | (with_reducible apply below_allocp; (first | omega | (simp <;> omega))) | (with_reducible refine below_viap (by assumption) ?_ ?_; (first | omega | (simp <;> omega)))))⟩

set_option maxHeartbeats 800000 in
/-- The step of a form that is not reduced. -/
theorem step_any (a b c : Int) (w : World) (ha : 0 < a) (ha2 : a ≤ 1000000000000000000) (hb1 : -1000000000000000000 ≤ b) (hb2 : b ≤ 1000000000000000000) (hr : isRed a b c = false) :
    Calls Try.prog 123 #[.agg #[.int .i64 a, .int .i64 b, .int .i64 c]] w fun e w' =>
      e = .returned (.agg #[.int .i64 (if isNorm a b then 0 else 1), .int .i64 (if isNorm a b then -1 else tr a b), .int .i64 (if isNorm a b then 1 else 0), .int .i64 (if isNorm a b then 0 else 1)]) ∧ Below w.heap.size w w' := by
  cases hn : isNorm a b with
  | true =>
    simp only [if_true]
    go_enter Try.func123, Try.ntmps123
    go_wp2_with (first | (go_at_call 145; (with_reducible refine (isNormal_any a b c _ ha (by omega)).mono ?_); rw [hn]; rintro e v2 ⟨rfl, hB2⟩; have hZ2 := hB2.size; (try simp at hZ2); (try have zl2 : w.heap.size < v2.heap.size := by omega); (try have ze2 : w.heap.size ≤ v2.heap.size := by omega); (try have zn2 : ¬ w.heap.size = v2.heap.size := by omega); (try have zm2 : ¬ v2.heap.size = w.heap.size := by omega); have hC2_0 := fun o => (calm_cells hB2).1 (w.heap.size) o (by first | omega | (simp <;> omega)); have hF2_0 := fun o => (calm_cells hB2).2 (w.heap.size) o (by first | omega | (simp <;> omega)); (try have hl2_0 : w.heap.size < v2.heap.size := by omega); (try have hm2_0 : ¬ w.heap.size = v2.heap.size := by omega); (try have hn2_0 : ¬ v2.heap.size = w.heap.size := by omega); have hC2_1 := fun o => (calm_cells hB2).1 (w.heap.size + 1) o (by first | omega | (simp <;> omega)); have hF2_1 := fun o => (calm_cells hB2).2 (w.heap.size + 1) o (by first | omega | (simp <;> omega)); (try have hl2_1 : w.heap.size + 1 < v2.heap.size := by omega); (try have hm2_1 : ¬ w.heap.size + 1 = v2.heap.size := by omega); (try have hn2_1 : ¬ v2.heap.size = w.heap.size + 1 := by omega)) | (go_at_call 122; (with_reducible refine (isReduced_any a b c _ ha (by omega)).mono ?_); rw [hr]; rintro e v1 ⟨rfl, hB1⟩; have hZ1 := hB1.size; (try simp at hZ1); (try have zl1 : w.heap.size < v1.heap.size := by omega); (try have ze1 : w.heap.size ≤ v1.heap.size := by omega); (try have zn1 : ¬ w.heap.size = v1.heap.size := by omega); (try have zm1 : ¬ v1.heap.size = w.heap.size := by omega); have hC1_0 := fun o => (calm_cells hB1).1 (w.heap.size) o (by first | omega | (simp <;> omega)); have hF1_0 := fun o => (calm_cells hB1).2 (w.heap.size) o (by first | omega | (simp <;> omega)); (try have hl1_0 : w.heap.size < v1.heap.size := by omega); (try have hm1_0 : ¬ w.heap.size = v1.heap.size := by omega); (try have hn1_0 : ¬ v1.heap.size = w.heap.size := by omega); have hC1_1 := fun o => (calm_cells hB1).1 (w.heap.size + 1) o (by first | omega | (simp <;> omega)); have hF1_1 := fun o => (calm_cells hB1).2 (w.heap.size + 1) o (by first | omega | (simp <;> omega)); (try have hl1_1 : w.heap.size + 1 < v1.heap.size := by omega); (try have hm1_1 : ¬ w.heap.size + 1 = v1.heap.size := by omega); (try have hn1_1 : ¬ v1.heap.size = w.heap.size + 1 := by omega)))
    exact bodyPost_ret (v := .agg #[.int .i64 0, .int .i64 (-1), .int .i64 1, .int .i64 0]) (by simp [results, Try.results123, go_sem, *]) rfl ⟨rfl, (by repeat (first | with_reducible exact Below.refl _ _ | with_reducible assumption | with_reducible apply Below.drew | with_reducible apply below_drewN | (with_reducible apply below_setp; (first | omega | (simp <;> omega))) | (with_reducible apply below_allocp; (first | omega | (simp <;> omega))) | (with_reducible refine below_viap (by assumption) ?_ ?_; (first | omega | (simp <;> omega)))))⟩
  | false =>
    simp only [Bool.false_eq_true, if_false]
    go_enter Try.func123, Try.ntmps123
    go_wp2_with (first | (go_at_call 145; (with_reducible refine (isNormal_any a b c _ ha (by omega)).mono ?_); rw [hn]; rintro e v2 ⟨rfl, hB2⟩; have hZ2 := hB2.size; (try simp at hZ2); (try have zl2 : w.heap.size < v2.heap.size := by omega); (try have ze2 : w.heap.size ≤ v2.heap.size := by omega); (try have zn2 : ¬ w.heap.size = v2.heap.size := by omega); (try have zm2 : ¬ v2.heap.size = w.heap.size := by omega); have hC2_0 := fun o => (calm_cells hB2).1 (w.heap.size) o (by first | omega | (simp <;> omega)); have hF2_0 := fun o => (calm_cells hB2).2 (w.heap.size) o (by first | omega | (simp <;> omega)); (try have hl2_0 : w.heap.size < v2.heap.size := by omega); (try have hm2_0 : ¬ w.heap.size = v2.heap.size := by omega); (try have hn2_0 : ¬ v2.heap.size = w.heap.size := by omega); have hC2_1 := fun o => (calm_cells hB2).1 (w.heap.size + 1) o (by first | omega | (simp <;> omega)); have hF2_1 := fun o => (calm_cells hB2).2 (w.heap.size + 1) o (by first | omega | (simp <;> omega)); (try have hl2_1 : w.heap.size + 1 < v2.heap.size := by omega); (try have hm2_1 : ¬ w.heap.size + 1 = v2.heap.size := by omega); (try have hn2_1 : ¬ v2.heap.size = w.heap.size + 1 := by omega)) | (go_at_call 122; (with_reducible refine (isReduced_any a b c _ ha (by omega)).mono ?_); rw [hr]; rintro e v1 ⟨rfl, hB1⟩; have hZ1 := hB1.size; (try simp at hZ1); (try have zl1 : w.heap.size < v1.heap.size := by omega); (try have ze1 : w.heap.size ≤ v1.heap.size := by omega); (try have zn1 : ¬ w.heap.size = v1.heap.size := by omega); (try have zm1 : ¬ v1.heap.size = w.heap.size := by omega); have hC1_0 := fun o => (calm_cells hB1).1 (w.heap.size) o (by first | omega | (simp <;> omega)); have hF1_0 := fun o => (calm_cells hB1).2 (w.heap.size) o (by first | omega | (simp <;> omega)); (try have hl1_0 : w.heap.size < v1.heap.size := by omega); (try have hm1_0 : ¬ w.heap.size = v1.heap.size := by omega); (try have hn1_0 : ¬ v1.heap.size = w.heap.size := by omega); have hC1_1 := fun o => (calm_cells hB1).1 (w.heap.size + 1) o (by first | omega | (simp <;> omega)); have hF1_1 := fun o => (calm_cells hB1).2 (w.heap.size + 1) o (by first | omega | (simp <;> omega)); (try have hl1_1 : w.heap.size + 1 < v1.heap.size := by omega); (try have hm1_1 : ¬ w.heap.size + 1 = v1.heap.size := by omega); (try have hn1_1 : ¬ v1.heap.size = w.heap.size + 1 := by omega)) | (go_at_call 146; (with_reducible refine (floorDiv_any (a - b) (2 * a) _ (by omega) (by omega) (by omega) (by omega)).mono ?_); rintro e v ⟨rfl, rfl⟩))
    exact bodyPost_ret (v := .agg #[.int .i64 1, .int .i64 (tr a b), .int .i64 0, .int .i64 1]) (by simp [results, Try.results123, go_sem, tr, *]) rfl ⟨rfl, (by repeat (first | with_reducible exact Below.refl _ _ | with_reducible assumption | with_reducible apply Below.drew | with_reducible apply below_drewN | (with_reducible apply below_setp; (first | omega | (simp <;> omega))) | (with_reducible apply below_allocp; (first | omega | (simp <;> omega))) | (with_reducible refine below_viap (by assumption) ?_ ?_; (first | omega | (simp <;> omega)))))⟩
end Go.Proofs.Ytifkmjmhhklkjaa
