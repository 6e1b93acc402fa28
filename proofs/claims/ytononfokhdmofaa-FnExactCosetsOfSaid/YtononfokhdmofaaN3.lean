/- Contracts: the Jacobi symbol, by the reference. -/
import Derived.Test.YtononfokhdmofaaN2
import Derived.Deep.LoopGhost
namespace Go.Proofs.Ytononfokhdmofaa
open Go.RowKit

set_option maxHeartbeats 800000 in
theorem syTwo_any (n : Int) (w : World) (hn : n % 2 = 1) : Calls Try.prog 161 #[.int .i64 n] w fun e w' => e = .returned (.int .i64 (two n)) ∧ w = w' := by
  have hM := Lib.hid (fun w => nuMod_any n 8 w (by omega) (by omega))
  obtain ⟨t, ht⟩ : ∃ t : Int, two n = t := ⟨_, rfl⟩
  rw [ht]
  unfold two at ht
  have hr : n % 8 = 1 ∨ n % 8 = 3 ∨ n % 8 = 5 ∨ n % 8 = 7 := by omega
  generalize n % 8 = r at *
  clear hn
  rcases hr with rfl | rfl | rfl | rfl
  all_goals
    simp at ht
    subst ht
    go_enter Try.func161, Try.ntmps161
    go_wp2_with (go_at_call 114; (with_reducible refine (hM.out _).mono ?_); rintro e v ⟨rfl, rfl⟩)
    go_ret
    exact ⟨rfl, rfl⟩

set_option maxHeartbeats 400000 in
theorem syEnd_any (t b s : Int) (e0 : Bool) (w : World) (h : (decide (t = 0) || decide (t = 1)) = e0) : Calls Try.prog 180 #[.agg #[.int .i64 t, .int .i64 b, .int .i64 s]] w fun e w' => e = .returned (.bool e0) ∧ Below w.heap.size w w' := by
  by_cases h0 : t = 0
  · subst h0
    simp at h; subst h
    go_enter Try.func180, Try.ntmps180
    go_wp2
    go_ret
    exact ⟨rfl, (by repeat (first | with_reducible exact Below.refl _ _ | with_reducible assumption | with_reducible apply Below.drew | with_reducible apply below_drewN | (with_reducible apply below_setp; (first | omega | (simp <;> omega))) | (with_reducible apply below_allocp; (first | omega | (simp <;> omega))) | (with_reducible refine below_viap (by assumption) ?_ ?_; (first | omega | (simp <;> omega)))))⟩
  · have e1 : (t == 0) = false := by rw [beq_eq_false_iff_ne]; exact h0
    by_cases h1 : t = 1
    · subst h1
      simp at h; subst h
      go_enter Try.func180, Try.ntmps180
      go_wp2
      go_ret
      exact ⟨rfl, (by repeat (first | with_reducible exact Below.refl _ _ | with_reducible assumption | with_reducible apply Below.drew | with_reducible apply below_drewN | (with_reducible apply below_setp; (first | omega | (simp <;> omega))) | (with_reducible apply below_allocp; (first | omega | (simp <;> omega))) | (with_reducible refine below_viap (by assumption) ?_ ?_; (first | omega | (simp <;> omega)))))⟩
    · have e2 : (t == 1) = false := by rw [beq_eq_false_iff_ne]; exact h1
      simp [h0, h1] at h; subst h
      clear h0 h1
      go_enter Try.func180, Try.ntmps180
      go_wp2
      go_ret
      exact ⟨rfl, (by repeat (first | with_reducible exact Below.refl _ _ | with_reducible assumption | with_reducible apply Below.drew | with_reducible apply below_drewN | (with_reducible apply below_setp; (first | omega | (simp <;> omega))) | (with_reducible apply below_allocp; (first | omega | (simp <;> omega))) | (with_reducible refine below_viap (by assumption) ?_ ?_; (first | omega | (simp <;> omega)))))⟩

set_option maxHeartbeats 800000 in
theorem sySuc_red (t b s : Int) (w : World) (hb : 0 < b) (hb2 : b ≤ 1000000000000000) (h : ¬ (0 ≤ t ∧ t < b)) :
    Calls Try.prog 181 #[.agg #[.int .i64 t, .int .i64 b, .int .i64 s]] w fun e w' => e = .returned (.agg #[.int .i64 (t % b), .int .i64 b, .int .i64 s]) ∧ Below w.heap.size w w' := by
  have hI := fun w => l1In_any t 0 (b - 1) w
  rw [show (decide (0 ≤ t) && decide (t ≤ b - 1)) = false by simp; omega] at hI
  have HI := Lib.hid hI
  clear hI h
  go_enter Try.func181, Try.ntmps181
  go_wp2_with (first | (go_at_call 113; (with_reducible refine (HI.out _).mono ?_); rintro e v ⟨rfl, rfl⟩) | (go_at_call 114; (with_reducible refine (nuMod_any t b _ hb (by omega)).mono ?_); rintro e v ⟨rfl, rfl⟩))
  exact bodyPost_ret (v := .agg #[.int .i64 (t % b), .int .i64 b, .int .i64 s]) (by simp [results, Try.results181, go_sem, *]) rfl ⟨rfl, (by repeat (first | with_reducible exact Below.refl _ _ | with_reducible assumption | with_reducible apply Below.drew | with_reducible apply below_drewN | (with_reducible apply below_setp; (first | omega | (simp <;> omega))) | (with_reducible apply below_allocp; (first | omega | (simp <;> omega))) | (with_reducible refine below_viap (by assumption) ?_ ?_; (first | omega | (simp <;> omega)))))⟩

set_option maxHeartbeats 800000 in
theorem sySuc_even (t b s : Int) (w : World) (hb2 : b ≤ 1000000000000000) (h0 : 0 ≤ t) (h1 : t < b) (he : t % 2 = 0) (hs : -1 ≤ s * two b ∧ s * two b ≤ 1) (hs2 : -1 ≤ s ∧ s ≤ 1) (ho : b % 2 = 1) :
    Calls Try.prog 181 #[.agg #[.int .i64 t, .int .i64 b, .int .i64 s]] w fun e w' => e = .returned (.agg #[.int .i64 (t / 2), .int .i64 b, .int .i64 (s * two b)]) ∧ Below w.heap.size w w' := by
  have hI := fun w => l1In_any t 0 (b - 1) w
  rw [show (decide (0 ≤ t) && decide (t ≤ b - 1)) = true by simp; omega] at hI
  have HI := Lib.hid hI
  have HT := Lib.hid (fun w => syTwo_any b w ho)
  obtain ⟨s1, s2⟩ := hs
  obtain ⟨s3, s4⟩ := hs2
  have e1 : (t % 2 == 0) = true := by rw [beq_iff_eq]; exact he
  have w1 : IntKind.i64.wrap (s * two b) = s * two b := IntWalk.i64_in _ (by omega)
  generalize two b = u at *
  clear hI he ho
  go_enter Try.func181, Try.ntmps181
  go_wp2_with (first | (go_at_call 113; (with_reducible refine (HI.out _).mono ?_); rintro e v ⟨rfl, rfl⟩))
  refine wp_region_calm 7 (Below (w.heap.size + 2) _) (by kernel_rfl) (by kernel_rfl) ((Below.refl _ _).drew) ?_
  simp only [List.take_succ_cons, List.take_zero, List.drop_succ_cons, List.drop_zero]
  repeat (first | (apply wpCalm_go; go_simp; (intro w' hw' hcc hff; go_simp; first | exact rfl | ((with_reducible refine (HT.out _).mono ?_); rintro ee w1 ⟨rfl, hb⟩; exact ⟨rfl, calm_call_same hw' hb⟩)); (intro K hK; go_simp; refine hK _ ?_; clear hK K)) | (apply wpCalm_skip; go_simp; (intro K hK; go_simp; refine hK _ ?_; clear hK K)))
  refine wpCalm_nil ?_
  intro w1 hw1
  have hcc := (calm_cells hw1).1
  have hff := (calm_cells hw1).2
  have hss := calm_size hw1
  have hsz := hw1.size
  (try simp at hsz)
  go_wp2
  exact bodyPost_ret (v := .agg #[.int .i64 (t / 2), .int .i64 b, .int .i64 (s * u)]) (by simp [results, Try.results181, go_sem, *]) rfl ⟨rfl, (by repeat (first | with_reducible exact Below.refl _ _ | with_reducible assumption | with_reducible apply Below.drew | with_reducible apply below_drewN | (with_reducible apply below_setp; (first | omega | (simp <;> omega))) | (with_reducible apply below_allocp; (first | omega | (simp <;> omega))) | (with_reducible refine below_viap (by assumption) ?_ ?_; (first | omega | (simp <;> omega)))))⟩

set_option maxHeartbeats 1600000 in
theorem sySuc_odd (t b s u : Int) (w : World) (hb2 : b ≤ 1000000000000000) (h0 : 0 < t) (h1 : t < b) (he : ¬ t % 2 = 0) (hs2 : -1 ≤ s ∧ s ≤ 1) (hu : u = if t % 4 = 3 ∧ b % 4 = 3 then -s else s) :
    Calls Try.prog 181 #[.agg #[.int .i64 t, .int .i64 b, .int .i64 s]] w fun e w' => e = .returned (.agg #[.int .i64 b, .int .i64 t, .int .i64 u]) ∧ Below w.heap.size w w' := by
  have hI := fun w => l1In_any t 0 (b - 1) w
  rw [show (decide (0 ≤ t) && decide (t ≤ b - 1)) = true by simp; omega] at hI
  have HI := Lib.hid hI
  obtain ⟨s3, s4⟩ := hs2
  have e1 : (t % 2 == 0) = false := by rw [beq_eq_false_iff_ne]; exact he
  clear hI he
  by_cases h3 : t % 4 = 3
  · have e3 : (t % 4 == 3) = true := by rw [beq_iff_eq]; exact h3
    by_cases h4 : b % 4 = 3
    · have e4 : (b % 4 == 3) = true := by rw [beq_iff_eq]; exact h4
      rw [if_pos ⟨h3, h4⟩] at hu
      subst hu
      clear h3 h4
      go_enter Try.func181, Try.ntmps181
      go_wp2_with (first | (go_at_call 113; (with_reducible refine (HI.out _).mono ?_); rintro e v ⟨rfl, rfl⟩))
      exact bodyPost_ret (v := .agg #[.int .i64 b, .int .i64 t, .int .i64 (-s)]) (by simp [results, Try.results181, go_sem, *]) rfl ⟨rfl, (by repeat (first | with_reducible exact Below.refl _ _ | with_reducible assumption | with_reducible apply Below.drew | with_reducible apply below_drewN | (with_reducible apply below_setp; (first | omega | (simp <;> omega))) | (with_reducible apply below_allocp; (first | omega | (simp <;> omega))) | (with_reducible refine below_viap (by assumption) ?_ ?_; (first | omega | (simp <;> omega)))))⟩
    · have e4 : (b % 4 == 3) = false := by rw [beq_eq_false_iff_ne]; exact h4
      rw [if_neg (fun h => h4 h.2)] at hu
      subst hu
      clear h3 h4
      go_enter Try.func181, Try.ntmps181
      go_wp2_with (first | (go_at_call 113; (with_reducible refine (HI.out _).mono ?_); rintro e v ⟨rfl, rfl⟩))
      exact bodyPost_ret (v := .agg #[.int .i64 b, .int .i64 t, .int .i64 u]) (by simp [results, Try.results181, go_sem, *]) rfl ⟨rfl, (by repeat (first | with_reducible exact Below.refl _ _ | with_reducible assumption | with_reducible apply Below.drew | with_reducible apply below_drewN | (with_reducible apply below_setp; (first | omega | (simp <;> omega))) | (with_reducible apply below_allocp; (first | omega | (simp <;> omega))) | (with_reducible refine below_viap (by assumption) ?_ ?_; (first | omega | (simp <;> omega)))))⟩
  · have e3 : (t % 4 == 3) = false := by rw [beq_eq_false_iff_ne]; exact h3
    rw [if_neg (fun h => h3 h.1)] at hu
    subst hu
    clear h3
    go_enter Try.func181, Try.ntmps181
    go_wp2_with (first | (go_at_call 113; (with_reducible refine (HI.out _).mono ?_); rintro e v ⟨rfl, rfl⟩))
    exact bodyPost_ret (v := .agg #[.int .i64 b, .int .i64 t, .int .i64 u]) (by simp [results, Try.results181, go_sem, *]) rfl ⟨rfl, (by repeat (first | with_reducible exact Below.refl _ _ | with_reducible assumption | with_reducible apply Below.drew | with_reducible apply below_drewN | (with_reducible apply below_setp; (first | omega | (simp <;> omega))) | (with_reducible apply below_allocp; (first | omega | (simp <;> omega))) | (with_reducible refine below_viap (by assumption) ?_ ?_; (first | omega | (simp <;> omega)))))⟩
end Go.Proofs.Ytononfokhdmofaa
