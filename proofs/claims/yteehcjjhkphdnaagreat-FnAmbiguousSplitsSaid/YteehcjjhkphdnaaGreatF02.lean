/- Contracts of FormOfSplit, of the program and of the reference. -/
import Derived.Test.YteehcjjhkphdnaaGreatCA
namespace Go.Proofs.YteehcjjhkphdnaaGreat
open Go.RowKit

theorem neg_quot {d r : Int} (h : d ≤ 0) : d.tdiv r = -(-d / r) := by
  rw [← Int.tdiv_eq_ediv_of_nonneg (show 0 ≤ -d by omega), Int.neg_tdiv, Int.neg_neg]
theorem neg_rem {d r : Int} (h : d ≤ 0) : d.tmod r = -(-d % r) := by
  rw [← Int.tmod_eq_emod_of_nonneg (show 0 ≤ -d by omega), Int.neg_tmod, Int.neg_neg]

theorem fm_inj {x y z a b c : Int} (h : (⟨x, y, z⟩ : Fm) = ⟨a, b, c⟩) : x = a ∧ y = b ∧ z = c := by injection h with h1 h2 h3; exact ⟨h1, h2, h3⟩
/-- What both return: the form and whether there is one. -/
def Fos (d r : Int) (f : Fm) (b : Bool) : Prop :=
  (isDisc d = false ∧ f = ⟨0, 0, 0⟩ ∧ b = false) ∨
  (isDisc d = true ∧ ¬ (1 ≤ r ∧ r ≤ -d) ∧ f = ⟨0, 0, 0⟩ ∧ b = false) ∨
  (isDisc d = true ∧ 1 ≤ r ∧ r ≤ -d ∧ -d % r ≠ 0 ∧ f = ⟨0, 0, 0⟩ ∧ b = false) ∨
  (isDisc d = true ∧ 1 ≤ r ∧ r ≤ -d ∧ -d % r = 0 ∧ -d / r % 4 = 0 ∧ Int.gcd r (-d / r / 4) = 1 ∧ red ⟨r, 0, -d / r / 4⟩ = f ∧ b = true) ∨
  (isDisc d = true ∧ 1 ≤ r ∧ r ≤ -d ∧ -d % r = 0 ∧ ¬ (-d / r % 4 = 0 ∧ Int.gcd r (-d / r / 4) = 1) ∧ (r + -d / r) % 4 = 0 ∧ Int.gcd r ((r + -d / r) / 4) = 1 ∧ red ⟨r, r, (r + -d / r) / 4⟩ = f ∧ b = true) ∨
  (isDisc d = true ∧ 1 ≤ r ∧ r ≤ -d ∧ -d % r = 0 ∧ ¬ (-d / r % 4 = 0 ∧ Int.gcd r (-d / r / 4) = 1) ∧ ¬ ((r + -d / r) % 4 = 0 ∧ Int.gcd r ((r + -d / r) / 4) = 1) ∧ f = ⟨0, 0, 0⟩ ∧ b = false)

theorem fos_ex (d r : Int) : ∃ f b, Fos d r f b := by
  cases hd : isDisc d with
  | false => exact ⟨_, _, .inl ⟨hd, rfl, rfl⟩⟩
  | true =>
    by_cases h1 : 1 ≤ r ∧ r ≤ -d
    · by_cases h2 : -d % r = 0
      · by_cases h3 : -d / r % 4 = 0 ∧ Int.gcd r (-d / r / 4) = 1
        · exact ⟨_, _, .inr (.inr (.inr (.inl ⟨hd, h1.1, h1.2, h2, h3.1, h3.2, rfl, rfl⟩)))⟩
        · by_cases h4 : (r + -d / r) % 4 = 0 ∧ Int.gcd r ((r + -d / r) / 4) = 1
          · exact ⟨_, _, .inr (.inr (.inr (.inr (.inl ⟨hd, h1.1, h1.2, h2, h3, h4.1, h4.2, rfl, rfl⟩))))⟩
          · exact ⟨_, _, .inr (.inr (.inr (.inr (.inr ⟨hd, h1.1, h1.2, h2, h3, h4, rfl, rfl⟩))))⟩
      · exact ⟨_, _, .inr (.inr (.inl ⟨hd, h1.1, h1.2, h2, rfl, rfl⟩))⟩
    · exact ⟨_, _, .inr (.inl ⟨hd, h1, rfl, rfl⟩)⟩

theorem isDisc_bd {d : Int} (h : isDisc d = true) : -2000 ≤ d ∧ d ≤ -3 := by
  simp [isDisc] at h; omega

theorem quot_bd {d r : Int} (h1 : 1 ≤ r) (h2 : r ≤ -d) : 1 ≤ -d / r ∧ -d / r ≤ -d := by
  constructor
  · exact Int.le_ediv_of_mul_le (by omega) (by omega)
  · exact Int.ediv_le_self _ (by omega)
theorem quot_mul {d r : Int} (h1 : -d % r = 0) : r * (-d / r) = -d := by
  have := Int.emod_add_mul_ediv (-d) r; omega

theorem def_one {d r : Int} (hd : isDisc d = true) (h1 : 1 ≤ r) (h2 : r ≤ -d) (h3 : -d % r = 0) (h4 : -d / r % 4 = 0) : Def M0 ⟨r, 0, -d / r / 4⟩ := by
  have hb := isDisc_bd hd
  have hq := quot_bd h1 h2
  have hm := quot_mul h3
  have e : 4 * (r * (-d / r / 4)) = -d := by
    have e1 : 4 * (-d / r / 4) = -d / r := by omega
    rw [Int.mul_left_comm, e1, hm]
  unfold M0
  exact ⟨by show 0 < r; omega, by show r ≤ _; omega, by show 0 < -d / r / 4; omega, by show -d / r / 4 ≤ _; omega, by show (0 : Int) * 0 < _; simp only; omega⟩
theorem def_two {d r : Int} (hd : isDisc d = true) (h1 : 1 ≤ r) (h2 : r ≤ -d) (h3 : -d % r = 0) (h4 : (r + -d / r) % 4 = 0) : Def M0 ⟨r, r, (r + -d / r) / 4⟩ := by
  have hb := isDisc_bd hd
  have hq := quot_bd h1 h2
  have hm := quot_mul h3
  have e : 4 * (r * ((r + -d / r) / 4)) = r * r + -d := by
    have e1 : 4 * ((r + -d / r) / 4) = r + -d / r := by omega
    rw [Int.mul_left_comm, e1, Int.mul_add, hm]
  unfold M0
  exact ⟨by show 0 < r; omega, by show r ≤ _; omega, by show 0 < (r + -d / r) / 4; omega, by show (r + -d / r) / 4 ≤ _; omega, by show r * r < _; simp only; omega⟩

set_option maxHeartbeats 1600000 in
theorem specFos_any (d r x y z : Int) (b : Bool) (w : World) (h : Fos d r ⟨x, y, z⟩ b) :
    Calls Tryz.prog 149 #[.int .i64 d, .int .i64 r] w fun e w' => e = .returned (.tuple #[.agg #[.int .i64 x, .int .i64 y, .int .i64 z], .bool b]) ∧ Below w.heap.size w w' := by
  rcases h with ⟨hd, h0, rfl⟩ | ⟨hd, h1, h0, rfl⟩ | ⟨hd, h1, h2, h3, h0, rfl⟩ | ⟨hd, h1, h2, h3, h4, h5, hf, rfl⟩ | ⟨hd, h1, h2, h3, h4, h5, h6, hf, rfl⟩ | ⟨hd, h1, h2, h3, h4, h5, h0, rfl⟩
  · obtain ⟨rfl, rfl, rfl⟩ := fm_inj h0
    go_enter Tryz.func149, Tryz.ntmps149
    go_wp2_with (first | (go_at_call 74; (with_reducible refine (reDisc_any _ _).mono ?_); rintro e v ⟨rfl, rfl⟩) | go_in)
    exact bodyPost_ret (v := .tuple #[.agg #[.int .i64 0, .int .i64 0, .int .i64 0], .bool false]) (by simp [results, Tryz.results149, go_sem, *]) rfl ⟨rfl, (by repeat (first | with_reducible exact Below.refl _ _ | with_reducible assumption | with_reducible apply Below.drew | with_reducible apply below_drewN | (with_reducible apply below_setp; (first | omega | (simp <;> omega))) | (with_reducible apply below_allocp; (first | omega | (simp <;> omega))) | (with_reducible refine below_viap (by assumption) ?_ ?_; (first | omega | (simp <;> omega)))))⟩
  · obtain ⟨rfl, rfl, rfl⟩ := fm_inj h0
    obtain ⟨b1, b2⟩ := isDisc_bd hd
    have t1 := neg_quot (d := d) (r := r) (by omega)
    have t2 := neg_rem (d := d) (r := r) (by omega)
    by_cases h2 : 1 ≤ r
    · have h3 : -d < r := by omega
      clear h1
      go_enter Tryz.func149, Tryz.ntmps149
      go_wp2_with (first | (go_at_call 74; (with_reducible refine (reDisc_any _ _).mono ?_); rintro e v ⟨rfl, rfl⟩) | go_in)
      exact bodyPost_ret (v := .tuple #[.agg #[.int .i64 0, .int .i64 0, .int .i64 0], .bool false]) (by simp [results, Tryz.results149, go_sem, *]) rfl ⟨rfl, (by repeat (first | with_reducible exact Below.refl _ _ | with_reducible assumption | with_reducible apply Below.drew | with_reducible apply below_drewN | (with_reducible apply below_setp; (first | omega | (simp <;> omega))) | (with_reducible apply below_allocp; (first | omega | (simp <;> omega))) | (with_reducible refine below_viap (by assumption) ?_ ?_; (first | omega | (simp <;> omega)))))⟩
    · clear h1
      go_enter Tryz.func149, Tryz.ntmps149
      go_wp2_with (first | (go_at_call 74; (with_reducible refine (reDisc_any _ _).mono ?_); rintro e v ⟨rfl, rfl⟩) | go_in)
      exact bodyPost_ret (v := .tuple #[.agg #[.int .i64 0, .int .i64 0, .int .i64 0], .bool false]) (by simp [results, Tryz.results149, go_sem, *]) rfl ⟨rfl, (by repeat (first | with_reducible exact Below.refl _ _ | with_reducible assumption | with_reducible apply Below.drew | with_reducible apply below_drewN | (with_reducible apply below_setp; (first | omega | (simp <;> omega))) | (with_reducible apply below_allocp; (first | omega | (simp <;> omega))) | (with_reducible refine below_viap (by assumption) ?_ ?_; (first | omega | (simp <;> omega)))))⟩
  · obtain ⟨rfl, rfl, rfl⟩ := fm_inj h0
    obtain ⟨b1, b2⟩ := isDisc_bd hd
    have t1 := neg_quot (d := d) (r := r) (by omega)
    have t2 := neg_rem (d := d) (r := r) (by omega)
    have h4 : (-d % r != 0) = true := by rw [bne_iff_ne]; exact h3
    have h5 : (r == 0) = false := by rw [beq_eq_false_iff_ne]; omega
    clear h3
    go_enter Tryz.func149, Tryz.ntmps149
    go_wp2_with (first | (go_at_call 74; (with_reducible refine (reDisc_any _ _).mono ?_); rintro e v ⟨rfl, rfl⟩) | go_in)
    exact bodyPost_ret (v := .tuple #[.agg #[.int .i64 0, .int .i64 0, .int .i64 0], .bool false]) (by simp [results, Tryz.results149, go_sem, *]) rfl ⟨rfl, (by repeat (first | with_reducible exact Below.refl _ _ | with_reducible assumption | with_reducible apply Below.drew | with_reducible apply below_drewN | (with_reducible apply below_setp; (first | omega | (simp <;> omega))) | (with_reducible apply below_allocp; (first | omega | (simp <;> omega))) | (with_reducible refine below_viap (by assumption) ?_ ?_; (first | omega | (simp <;> omega)))))⟩
  · have hdef := def_one hd h1 h2 h3 h4
    obtain ⟨b1, b2⟩ := isDisc_bd hd
    have t1 := neg_quot (d := d) (r := r) (by omega)
    have t2 := neg_rem (d := d) (r := r) (by omega)
    obtain ⟨q1, q2⟩ := quot_bd h1 h2
    have e1 : (-d % r != 0) = false := by rw [bne_eq_false_iff_eq]; exact h3
    have e2 : (-d / r % 4 == 0) = true := by rw [beq_iff_eq]; exact h4
    have e3 : ((Int.gcd r (-d / r / 4) : Int) == 1) = true := by rw [beq_iff_eq]; omega
    have e4 : (r == 0) = false := by rw [beq_eq_false_iff_ne]; omega
    have Hf := Lib.hid hf
    clear h3 h4 h5 hf
    go_enter Tryz.func149, Tryz.ntmps149
    go_wp2_with (first | (go_at_call 74; (with_reducible refine (reDisc_any _ _).mono ?_); rintro e v ⟨rfl, rfl⟩) | (go_at_call 162; refine (nuGcd_any _ _ _ (by omega) (by omega) (by omega) (by omega)).mono ?_; rintro e v ⟨rfl, nq, rfl⟩) | (go_at_call 141; (with_reducible refine (reClass_any _ _ _ x y z _ hdef Hf.out).mono ?_); rintro e v1 ⟨rfl, hB1⟩; have hZ1 := hB1.size; (try simp at hZ1); (try have zl1 : w.heap.size < v1.heap.size := by omega); (try have ze1 : w.heap.size ≤ v1.heap.size := by omega); (try have zn1 : ¬ w.heap.size = v1.heap.size := by omega); (try have zm1 : ¬ v1.heap.size = w.heap.size := by omega); have hC1_0 := fun o => (calm_cells hB1).1 (w.heap.size) o (by first | omega | (simp <;> omega)); have hF1_0 := fun o => (calm_cells hB1).2 (w.heap.size) o (by first | omega | (simp <;> omega)); (try have hl1_0 : w.heap.size < v1.heap.size := by omega); (try have hm1_0 : ¬ w.heap.size = v1.heap.size := by omega); (try have hn1_0 : ¬ v1.heap.size = w.heap.size := by omega)) | go_in)
    exact bodyPost_ret (v := .tuple #[.agg #[.int .i64 x, .int .i64 y, .int .i64 z], .bool true]) (by simp [results, Tryz.results149, go_sem, *]) rfl ⟨rfl, (by repeat (first | with_reducible exact Below.refl _ _ | with_reducible assumption | with_reducible apply Below.drew | with_reducible apply below_drewN | (with_reducible apply below_setp; (first | omega | (simp <;> omega))) | (with_reducible apply below_allocp; (first | omega | (simp <;> omega))) | (with_reducible refine below_viap (by assumption) ?_ ?_; (first | omega | (simp <;> omega)))))⟩
  · have hdef := def_two hd h1 h2 h3 h5
    obtain ⟨b1, b2⟩ := isDisc_bd hd
    have t1 := neg_quot (d := d) (r := r) (by omega)
    have t2 := neg_rem (d := d) (r := r) (by omega)
    obtain ⟨q1, q2⟩ := quot_bd h1 h2
    have e1 : (-d % r != 0) = false := by rw [bne_eq_false_iff_eq]; exact h3
    have e4 : (r == 0) = false := by rw [beq_eq_false_iff_ne]; omega
    have e5 : ((r + -d / r) % 4 == 0) = true := by rw [beq_iff_eq]; exact h5
    have e6 : ((Int.gcd r ((r + -d / r) / 4) : Int) == 1) = true := by rw [beq_iff_eq]; omega
    have Hf := Lib.hid hf
    by_cases h7 : -d / r % 4 = 0
    · have e2 : (-d / r % 4 == 0) = true := by rw [beq_iff_eq]; exact h7
      have e3 : ((Int.gcd r (-d / r / 4) : Int) == 1) = false := by rw [beq_eq_false_iff_ne]; omega
      clear h3 h4 h5 h6 hf h7
      go_enter Tryz.func149, Tryz.ntmps149
      go_wp2_with (first | (go_at_call 74; (with_reducible refine (reDisc_any _ _).mono ?_); rintro e v ⟨rfl, rfl⟩) | (go_at_call 162; refine (nuGcd_any _ _ _ (by omega) (by omega) (by omega) (by omega)).mono ?_; rintro e v ⟨rfl, nq, rfl⟩) | (go_at_call 141; (with_reducible refine (reClass_any _ _ _ x y z _ hdef Hf.out).mono ?_); rintro e v1 ⟨rfl, hB1⟩; have hZ1 := hB1.size; (try simp at hZ1); (try have zl1 : w.heap.size < v1.heap.size := by omega); (try have ze1 : w.heap.size ≤ v1.heap.size := by omega); (try have zn1 : ¬ w.heap.size = v1.heap.size := by omega); (try have zm1 : ¬ v1.heap.size = w.heap.size := by omega); have hC1_0 := fun o => (calm_cells hB1).1 (w.heap.size) o (by first | omega | (simp <;> omega)); have hF1_0 := fun o => (calm_cells hB1).2 (w.heap.size) o (by first | omega | (simp <;> omega)); (try have hl1_0 : w.heap.size < v1.heap.size := by omega); (try have hm1_0 : ¬ w.heap.size = v1.heap.size := by omega); (try have hn1_0 : ¬ v1.heap.size = w.heap.size := by omega)) | go_in)
      exact bodyPost_ret (v := .tuple #[.agg #[.int .i64 x, .int .i64 y, .int .i64 z], .bool true]) (by simp [results, Tryz.results149, go_sem, *]) rfl ⟨rfl, (by repeat (first | with_reducible exact Below.refl _ _ | with_reducible assumption | with_reducible apply Below.drew | with_reducible apply below_drewN | (with_reducible apply below_setp; (first | omega | (simp <;> omega))) | (with_reducible apply below_allocp; (first | omega | (simp <;> omega))) | (with_reducible refine below_viap (by assumption) ?_ ?_; (first | omega | (simp <;> omega)))))⟩
    · have e2 : (-d / r % 4 == 0) = false := by rw [beq_eq_false_iff_ne]; exact h7
      clear h3 h4 h5 h6 hf h7
      go_enter Tryz.func149, Tryz.ntmps149
      go_wp2_with (first | (go_at_call 74; (with_reducible refine (reDisc_any _ _).mono ?_); rintro e v ⟨rfl, rfl⟩) | (go_at_call 162; refine (nuGcd_any _ _ _ (by omega) (by omega) (by omega) (by omega)).mono ?_; rintro e v ⟨rfl, nq, rfl⟩) | (go_at_call 141; (with_reducible refine (reClass_any _ _ _ x y z _ hdef Hf.out).mono ?_); rintro e v1 ⟨rfl, hB1⟩; have hZ1 := hB1.size; (try simp at hZ1); (try have zl1 : w.heap.size < v1.heap.size := by omega); (try have ze1 : w.heap.size ≤ v1.heap.size := by omega); (try have zn1 : ¬ w.heap.size = v1.heap.size := by omega); (try have zm1 : ¬ v1.heap.size = w.heap.size := by omega); have hC1_0 := fun o => (calm_cells hB1).1 (w.heap.size) o (by first | omega | (simp <;> omega)); have hF1_0 := fun o => (calm_cells hB1).2 (w.heap.size) o (by first | omega | (simp <;> omega)); (try have hl1_0 : w.heap.size < v1.heap.size := by omega); (try have hm1_0 : ¬ w.heap.size = v1.heap.size := by omega); (try have hn1_0 : ¬ v1.heap.size = w.heap.size := by omega)) | go_in)
      exact bodyPost_ret (v := .tuple #[.agg #[.int .i64 x, .int .i64 y, .int .i64 z], .bool true]) (by simp [results, Tryz.results149, go_sem, *]) rfl ⟨rfl, (by repeat (first | with_reducible exact Below.refl _ _ | with_reducible assumption | with_reducible apply Below.drew | with_reducible apply below_drewN | (with_reducible apply below_setp; (first | omega | (simp <;> omega))) | (with_reducible apply below_allocp; (first | omega | (simp <;> omega))) | (with_reducible refine below_viap (by assumption) ?_ ?_; (first | omega | (simp <;> omega)))))⟩
  · obtain ⟨rfl, rfl, rfl⟩ := fm_inj h0
    obtain ⟨b1, b2⟩ := isDisc_bd hd
    have t1 := neg_quot (d := d) (r := r) (by omega)
    have t2 := neg_rem (d := d) (r := r) (by omega)
    obtain ⟨q1, q2⟩ := quot_bd h1 h2
    have e1 : (-d % r != 0) = false := by rw [bne_eq_false_iff_eq]; exact h3
    have e4 : (r == 0) = false := by rw [beq_eq_false_iff_ne]; omega
    by_cases h7 : -d / r % 4 = 0
    · have e2 : (-d / r % 4 == 0) = true := by rw [beq_iff_eq]; exact h7
      have e3 : ((Int.gcd r (-d / r / 4) : Int) == 1) = false := by rw [beq_eq_false_iff_ne]; omega
      by_cases h8 : (r + -d / r) % 4 = 0
      · have e5 : ((r + -d / r) % 4 == 0) = true := by rw [beq_iff_eq]; exact h8
        have e6 : ((Int.gcd r ((r + -d / r) / 4) : Int) == 1) = false := by rw [beq_eq_false_iff_ne]; omega
        clear h3 h4 h5 h7 h8
        go_enter Tryz.func149, Tryz.ntmps149
        go_wp2_with (first | (go_at_call 74; (with_reducible refine (reDisc_any _ _).mono ?_); rintro e v ⟨rfl, rfl⟩) | (go_at_call 162; refine (nuGcd_any _ _ _ (by omega) (by omega) (by omega) (by omega)).mono ?_; rintro e v ⟨rfl, nq, rfl⟩) | go_in)
        exact bodyPost_ret (v := .tuple #[.agg #[.int .i64 0, .int .i64 0, .int .i64 0], .bool false]) (by simp [results, Tryz.results149, go_sem, *]) rfl ⟨rfl, (by repeat (first | with_reducible exact Below.refl _ _ | with_reducible assumption | with_reducible apply Below.drew | with_reducible apply below_drewN | (with_reducible apply below_setp; (first | omega | (simp <;> omega))) | (with_reducible apply below_allocp; (first | omega | (simp <;> omega))) | (with_reducible refine below_viap (by assumption) ?_ ?_; (first | omega | (simp <;> omega)))))⟩
      · have e5 : ((r + -d / r) % 4 == 0) = false := by rw [beq_eq_false_iff_ne]; exact h8
        clear h3 h4 h5 h7 h8
        go_enter Tryz.func149, Tryz.ntmps149
        go_wp2_with (first | (go_at_call 74; (with_reducible refine (reDisc_any _ _).mono ?_); rintro e v ⟨rfl, rfl⟩) | (go_at_call 162; refine (nuGcd_any _ _ _ (by omega) (by omega) (by omega) (by omega)).mono ?_; rintro e v ⟨rfl, nq, rfl⟩) | go_in)
        exact bodyPost_ret (v := .tuple #[.agg #[.int .i64 0, .int .i64 0, .int .i64 0], .bool false]) (by simp [results, Tryz.results149, go_sem, *]) rfl ⟨rfl, (by repeat (first | with_reducible exact Below.refl _ _ | with_reducible assumption | with_reducible apply Below.drew | with_reducible apply below_drewN | (with_reducible apply below_setp; (first | omega | (simp <;> omega))) | (with_reducible apply below_allocp; (first | omega | (simp <;> omega))) | (with_reducible refine below_viap (by assumption) ?_ ?_; (first | omega | (simp <;> omega)))))⟩
    · have e2 : (-d / r % 4 == 0) = false := by rw [beq_eq_false_iff_ne]; exact h7
      by_cases h8 : (r + -d / r) % 4 = 0
      · have e5 : ((r + -d / r) % 4 == 0) = true := by rw [beq_iff_eq]; exact h8
        have e6 : ((Int.gcd r ((r + -d / r) / 4) : Int) == 1) = false := by rw [beq_eq_false_iff_ne]; omega
        clear h3 h4 h5 h7 h8
        go_enter Tryz.func149, Tryz.ntmps149
        go_wp2_with (first | (go_at_call 74; (with_reducible refine (reDisc_any _ _).mono ?_); rintro e v ⟨rfl, rfl⟩) | (go_at_call 162; refine (nuGcd_any _ _ _ (by omega) (by omega) (by omega) (by omega)).mono ?_; rintro e v ⟨rfl, nq, rfl⟩) | go_in)
        exact bodyPost_ret (v := .tuple #[.agg #[.int .i64 0, .int .i64 0, .int .i64 0], .bool false]) (by simp [results, Tryz.results149, go_sem, *]) rfl ⟨rfl, (by repeat (first | with_reducible exact Below.refl _ _ | with_reducible assumption | with_reducible apply Below.drew | with_reducible apply below_drewN | (with_reducible apply below_setp; (first | omega | (simp <;> omega))) | (with_reducible apply below_allocp; (first | omega | (simp <;> omega))) | (with_reducible refine below_viap (by assumption) ?_ ?_; (first | omega | (simp <;> omega)))))⟩
      · have e5 : ((r + -d / r) % 4 == 0) = false := by rw [beq_eq_false_iff_ne]; exact h8
        clear h3 h4 h5 h7 h8
        go_enter Tryz.func149, Tryz.ntmps149
        go_wp2_with (first | (go_at_call 74; (with_reducible refine (reDisc_any _ _).mono ?_); rintro e v ⟨rfl, rfl⟩) | (go_at_call 162; refine (nuGcd_any _ _ _ (by omega) (by omega) (by omega) (by omega)).mono ?_; rintro e v ⟨rfl, nq, rfl⟩) | go_in)
        exact bodyPost_ret (v := .tuple #[.agg #[.int .i64 0, .int .i64 0, .int .i64 0], .bool false]) (by simp [results, Tryz.results149, go_sem, *]) rfl ⟨rfl, (by repeat (first | with_reducible exact Below.refl _ _ | with_reducible assumption | with_reducible apply Below.drew | with_reducible apply below_drewN | (with_reducible apply below_setp; (first | omega | (simp <;> omega))) | (with_reducible apply below_allocp; (first | omega | (simp <;> omega))) | (with_reducible refine below_viap (by assumption) ?_ ?_; (first | omega | (simp <;> omega)))))⟩

theorem far_mk {x : Int} (h1 : -2000000000000000000 ≤ x) (h2 : x ≤ 2000000000000000000) : Far x := ⟨h1, h2⟩
theorem quot4 {d r : Int} (h : 1 ≤ r) : -d / (4 * r) = -d / r / 4 := by
  rw [Int.mul_comm, ← Int.ediv_ediv_of_nonneg (by omega)]
theorem rem4 {d r : Int} (h : 1 ≤ r) (hr : -d % r = 0) : -d % (4 * r) = 0 ↔ -d / r % 4 = 0 := by
  have hm := quot_mul hr
  generalize -d / r = q at *
  rw [← hm, Int.mul_comm 4 r, Int.mul_emod_mul_of_pos _ _ (by omega)]
  constructor
  · intro h0
    rcases Int.mul_eq_zero.1 h0 with h1 | h1
    · omega
    · exact h1
  · intro h0; rw [h0]; simp
theorem rem4_no {d r : Int} (hr : -d % r ≠ 0) : -d % (4 * r) ≠ 0 := by
  intro h0
  have := Int.dvd_of_emod_eq_zero h0
  exact hr (Int.emod_eq_zero_of_dvd (Int.dvd_trans (Int.dvd_mul_left 4 r) this))
theorem gcd_zero_mid (r c : Int) : Int.gcd r (Int.gcd 0 c) = Int.gcd r c := by rw [Int.gcd_eq_natAbs_gcd_natAbs, Int.gcd_eq_natAbs_gcd_natAbs 0 c, Int.gcd_eq_natAbs_gcd_natAbs r c]; simp
theorem gcd_self_mid (r c : Int) : Int.gcd r (Int.gcd r c) = Int.gcd r c := by rw [Int.gcd_eq_natAbs_gcd_natAbs, Int.gcd_eq_natAbs_gcd_natAbs r c, Int.natAbs_natCast, ← Nat.gcd_assoc, Nat.gcd_self]

set_option maxHeartbeats 1600000 in
theorem implFos_any (d r x y z : Int) (b : Bool) (w : World) (h : Fos d r ⟨x, y, z⟩ b) :
    Calls Tryz.prog 67 #[.int .i64 d, .int .i64 r] w fun e w' => e = .returned (.tuple #[.agg #[.int .i64 x, .int .i64 y, .int .i64 z], .bool b]) ∧ Below w.heap.size w w' := by
  rcases h with ⟨hd, h0, rfl⟩ | ⟨hd, h1, h0, rfl⟩ | ⟨hd, h1, h2, h3, h0, rfl⟩ | ⟨hd, h1, h2, h3, h4, h5, hf, rfl⟩ | ⟨hd, h1, h2, h3, h4, h5, h6, hf, rfl⟩ | ⟨hd, h1, h2, h3, h4, h5, h0, rfl⟩
  · obtain ⟨rfl, rfl, rfl⟩ := fm_inj h0
    go_enter Tryz.func67, Tryz.ntmps67
    go_wp2_with (first | (go_at_call 76; (with_reducible refine (isNegativeDisc_any _ _).mono ?_); rintro e v ⟨rfl, rfl⟩) | go_in)
    exact bodyPost_ret (v := .tuple #[.agg #[.int .i64 0, .int .i64 0, .int .i64 0], .bool false]) (by simp [results, Tryz.results67, go_sem, *]) rfl ⟨rfl, (by repeat (first | with_reducible exact Below.refl _ _ | with_reducible assumption | with_reducible apply Below.drew | with_reducible apply below_drewN | (with_reducible apply below_setp; (first | omega | (simp <;> omega))) | (with_reducible apply below_allocp; (first | omega | (simp <;> omega))) | (with_reducible refine below_viap (by assumption) ?_ ?_; (first | omega | (simp <;> omega)))))⟩
  · obtain ⟨rfl, rfl, rfl⟩ := fm_inj h0
    obtain ⟨b1, b2⟩ := isDisc_bd hd
    by_cases h2 : 1 ≤ r
    · have h3 : -d < r := by omega
      clear h1
      go_enter Tryz.func67, Tryz.ntmps67
      go_wp2_with (first | (go_at_call 76; (with_reducible refine (isNegativeDisc_any _ _).mono ?_); rintro e v ⟨rfl, rfl⟩) | go_in)
      exact bodyPost_ret (v := .tuple #[.agg #[.int .i64 0, .int .i64 0, .int .i64 0], .bool false]) (by simp [results, Tryz.results67, go_sem, *]) rfl ⟨rfl, (by repeat (first | with_reducible exact Below.refl _ _ | with_reducible assumption | with_reducible apply Below.drew | with_reducible apply below_drewN | (with_reducible apply below_setp; (first | omega | (simp <;> omega))) | (with_reducible apply below_allocp; (first | omega | (simp <;> omega))) | (with_reducible refine below_viap (by assumption) ?_ ?_; (first | omega | (simp <;> omega)))))⟩
    · clear h1
      go_enter Tryz.func67, Tryz.ntmps67
      go_wp2_with (first | (go_at_call 76; (with_reducible refine (isNegativeDisc_any _ _).mono ?_); rintro e v ⟨rfl, rfl⟩) | go_in)
      exact bodyPost_ret (v := .tuple #[.agg #[.int .i64 0, .int .i64 0, .int .i64 0], .bool false]) (by simp [results, Tryz.results67, go_sem, *]) rfl ⟨rfl, (by repeat (first | with_reducible exact Below.refl _ _ | with_reducible assumption | with_reducible apply Below.drew | with_reducible apply below_drewN | (with_reducible apply below_setp; (first | omega | (simp <;> omega))) | (with_reducible apply below_allocp; (first | omega | (simp <;> omega))) | (with_reducible refine below_viap (by assumption) ?_ ?_; (first | omega | (simp <;> omega)))))⟩
  · obtain ⟨rfl, rfl, rfl⟩ := fm_inj h0
    obtain ⟨b1, b2⟩ := isDisc_bd hd
    have t1 := neg_quot (d := d) (r := r) (by omega)
    have t2 := neg_rem (d := d) (r := r) (by omega)
    have t3 := neg_rem (d := d) (r := 4 * r) (by omega)
    have t4 := neg_quot (d := d) (r := 4 * r) (by omega)
    have t5 := quot4 (d := d) h1
    have e4 : (r == 0) = false := by rw [beq_eq_false_iff_ne]; omega
    have e7 : ¬ 4 * r = 0 := by omega
    have e8 : (4 * r == 0) = false := by rw [beq_eq_false_iff_ne]; omega
    have e1 : (-d % r == 0) = false := by rw [beq_eq_false_iff_ne]; exact h3
    have e2 : (-d % (4 * r) == 0) = false := by rw [beq_eq_false_iff_ne]; exact rem4_no h3
    clear h3
    go_enter Tryz.func67, Tryz.ntmps67
    go_wp2_with (first | (go_at_call 76; (with_reducible refine (isNegativeDisc_any _ _).mono ?_); rintro e v ⟨rfl, rfl⟩) | go_in)
    exact bodyPost_ret (v := .tuple #[.agg #[.int .i64 0, .int .i64 0, .int .i64 0], .bool false]) (by simp [results, Tryz.results67, go_sem, *]) rfl ⟨rfl, (by repeat (first | with_reducible exact Below.refl _ _ | with_reducible assumption | with_reducible apply Below.drew | with_reducible apply below_drewN | (with_reducible apply below_setp; (first | omega | (simp <;> omega))) | (with_reducible apply below_allocp; (first | omega | (simp <;> omega))) | (with_reducible refine below_viap (by assumption) ?_ ?_; (first | omega | (simp <;> omega)))))⟩
  · have hdef := def_one hd h1 h2 h3 h4
    obtain ⟨q1, q2⟩ := quot_bd h1 h2
    obtain ⟨b1, b2⟩ := isDisc_bd hd
    have t1 := neg_quot (d := d) (r := r) (by omega)
    have t2 := neg_rem (d := d) (r := r) (by omega)
    have t3 := neg_rem (d := d) (r := 4 * r) (by omega)
    have t4 := neg_quot (d := d) (r := 4 * r) (by omega)
    have t5 := quot4 (d := d) h1
    have e4 : (r == 0) = false := by rw [beq_eq_false_iff_ne]; omega
    have e7 : ¬ 4 * r = 0 := by omega
    have e8 : (4 * r == 0) = false := by rw [beq_eq_false_iff_ne]; omega
    have e2 : (-d % (4 * r) == 0) = true := by rw [beq_iff_eq]; exact (rem4 h1 h3).2 h4
    have k := content_any r 0 (-d / r / 4)
    rw [gcd_zero_mid, h5] at k
    have K := Lib.hid k
    have Hf := Lib.hid hf
    clear h3 h4 h5 hf k
    go_enter Tryz.func67, Tryz.ntmps67
    go_wp2_with (first | (go_at_call 76; (with_reducible refine (isNegativeDisc_any _ _).mono ?_); rintro e v ⟨rfl, rfl⟩) | (go_at_call 155; (with_reducible refine (K.out _ (far_mk (by omega) (by omega)) (far_mk (by omega) (by omega)) (far_mk (by omega) (by omega))).mono ?_); rintro e v2 ⟨rfl, hB2⟩; have hZ2 := hB2.size; (try simp at hZ2); (try have zl2 : w.heap.size < v2.heap.size := by omega); (try have ze2 : w.heap.size ≤ v2.heap.size := by omega); (try have zn2 : ¬ w.heap.size = v2.heap.size := by omega); (try have zm2 : ¬ v2.heap.size = w.heap.size := by omega); have hC2_0 := fun o => (calm_cells hB2).1 (w.heap.size) o (by first | omega | (simp <;> omega)); have hF2_0 := fun o => (calm_cells hB2).2 (w.heap.size) o (by first | omega | (simp <;> omega)); (try have hl2_0 : w.heap.size < v2.heap.size := by omega); (try have hm2_0 : ¬ w.heap.size = v2.heap.size := by omega); (try have hn2_0 : ¬ v2.heap.size = w.heap.size := by omega); have hC2_1 := fun o => (calm_cells hB2).1 (w.heap.size + 1) o (by first | omega | (simp <;> omega)); have hF2_1 := fun o => (calm_cells hB2).2 (w.heap.size + 1) o (by first | omega | (simp <;> omega)); (try have hl2_1 : w.heap.size + 1 < v2.heap.size := by omega); (try have hm2_1 : ¬ w.heap.size + 1 = v2.heap.size := by omega); (try have hn2_1 : ¬ v2.heap.size = w.heap.size + 1 := by omega)) | (go_at_call 94; (with_reducible refine (reduced_any _ _ _ x y z _ hdef Hf.out).mono ?_); rintro e v3 ⟨rfl, hB3⟩; have hZ3 := hB3.size; (try simp at hZ3); (try have zl3 : w.heap.size < v3.heap.size := by omega); (try have ze3 : w.heap.size ≤ v3.heap.size := by omega); (try have zn3 : ¬ w.heap.size = v3.heap.size := by omega); (try have zm3 : ¬ v3.heap.size = w.heap.size := by omega); have hC3_0 := fun o => (calm_cells hB3).1 (w.heap.size) o (by first | omega | (simp <;> omega)); have hF3_0 := fun o => (calm_cells hB3).2 (w.heap.size) o (by first | omega | (simp <;> omega)); (try have hl3_0 : w.heap.size < v3.heap.size := by omega); (try have hm3_0 : ¬ w.heap.size = v3.heap.size := by omega); (try have hn3_0 : ¬ v3.heap.size = w.heap.size := by omega)) | go_in)
    exact bodyPost_ret (v := .tuple #[.agg #[.int .i64 x, .int .i64 y, .int .i64 z], .bool true]) (by simp [results, Tryz.results67, go_sem, *]) rfl ⟨rfl, (by repeat (first | with_reducible exact Below.refl _ _ | with_reducible assumption | with_reducible apply Below.drew | with_reducible apply below_drewN | (with_reducible apply below_setp; (first | omega | (simp <;> omega))) | (with_reducible apply below_allocp; (first | omega | (simp <;> omega))) | (with_reducible refine below_viap (by assumption) ?_ ?_; (first | omega | (simp <;> omega)))))⟩
  · have hdef := def_two hd h1 h2 h3 h5
    obtain ⟨q1, q2⟩ := quot_bd h1 h2
    obtain ⟨b1, b2⟩ := isDisc_bd hd
    have t1 := neg_quot (d := d) (r := r) (by omega)
    have t2 := neg_rem (d := d) (r := r) (by omega)
    have t3 := neg_rem (d := d) (r := 4 * r) (by omega)
    have t4 := neg_quot (d := d) (r := 4 * r) (by omega)
    have t5 := quot4 (d := d) h1
    have e4 : (r == 0) = false := by rw [beq_eq_false_iff_ne]; omega
    have e7 : ¬ 4 * r = 0 := by omega
    have e8 : (4 * r == 0) = false := by rw [beq_eq_false_iff_ne]; omega
    have e1 : (-d % r == 0) = true := by rw [beq_iff_eq]; exact h3
    have e5 : ((r + -d / r) % 4 == 0) = true := by rw [beq_iff_eq]; exact h5
    have k := content_any r r ((r + -d / r) / 4)
    rw [gcd_self_mid, h6] at k
    have K := Lib.hid k
    have Hf := Lib.hid hf
    by_cases h7 : -d / r % 4 = 0
    · have e2 : (-d % (4 * r) == 0) = true := by rw [beq_iff_eq]; exact (rem4 h1 h3).2 h7
      have e3 : ((Int.gcd r (-d / r / 4) : Int) == 1) = false := by rw [beq_eq_false_iff_ne]; omega
      have k2 := content_any r 0 (-d / r / 4)
      rw [gcd_zero_mid] at k2
      have K2 := Lib.hid k2
      clear h3 h4 h5 h6 hf h7 k k2
      go_enter Tryz.func67, Tryz.ntmps67
      go_wp2_with (first | (go_at_call 76; (with_reducible refine (isNegativeDisc_any _ _).mono ?_); rintro e v ⟨rfl, rfl⟩) | (go_at_call 155; (with_reducible refine (K2.out _ (far_mk (by omega) (by omega)) (far_mk (by omega) (by omega)) (far_mk (by omega) (by omega))).mono ?_); rintro e v1 ⟨rfl, hB1⟩; have hZ1 := hB1.size; (try simp at hZ1); (try have zl1 : w.heap.size < v1.heap.size := by omega); (try have ze1 : w.heap.size ≤ v1.heap.size := by omega); (try have zn1 : ¬ w.heap.size = v1.heap.size := by omega); (try have zm1 : ¬ v1.heap.size = w.heap.size := by omega); have hC1_0 := fun o => (calm_cells hB1).1 (w.heap.size) o (by first | omega | (simp <;> omega)); have hF1_0 := fun o => (calm_cells hB1).2 (w.heap.size) o (by first | omega | (simp <;> omega)); (try have hl1_0 : w.heap.size < v1.heap.size := by omega); (try have hm1_0 : ¬ w.heap.size = v1.heap.size := by omega); (try have hn1_0 : ¬ v1.heap.size = w.heap.size := by omega); have hC1_1 := fun o => (calm_cells hB1).1 (w.heap.size + 1) o (by first | omega | (simp <;> omega)); have hF1_1 := fun o => (calm_cells hB1).2 (w.heap.size + 1) o (by first | omega | (simp <;> omega)); (try have hl1_1 : w.heap.size + 1 < v1.heap.size := by omega); (try have hm1_1 : ¬ w.heap.size + 1 = v1.heap.size := by omega); (try have hn1_1 : ¬ v1.heap.size = w.heap.size + 1 := by omega)) | (go_at_call 155; (with_reducible refine (K.out _ (far_mk (by omega) (by omega)) (far_mk (by omega) (by omega)) (far_mk (by omega) (by omega))).mono ?_); rintro e v2 ⟨rfl, hB2⟩; have hZ2 := hB2.size; (try simp at hZ2); (try have zl2 : w.heap.size < v2.heap.size := by omega); (try have ze2 : w.heap.size ≤ v2.heap.size := by omega); (try have zn2 : ¬ w.heap.size = v2.heap.size := by omega); (try have zm2 : ¬ v2.heap.size = w.heap.size := by omega); have hC2_0 := fun o => (calm_cells hB2).1 (w.heap.size) o (by first | omega | (simp <;> omega)); have hF2_0 := fun o => (calm_cells hB2).2 (w.heap.size) o (by first | omega | (simp <;> omega)); (try have hl2_0 : w.heap.size < v2.heap.size := by omega); (try have hm2_0 : ¬ w.heap.size = v2.heap.size := by omega); (try have hn2_0 : ¬ v2.heap.size = w.heap.size := by omega); have hC2_1 := fun o => (calm_cells hB2).1 (v1.heap.size) o (by first | omega | (simp <;> omega)); have hF2_1 := fun o => (calm_cells hB2).2 (v1.heap.size) o (by first | omega | (simp <;> omega)); (try have hl2_1 : v1.heap.size < v2.heap.size := by omega); (try have hm2_1 : ¬ v1.heap.size = v2.heap.size := by omega); (try have hn2_1 : ¬ v2.heap.size = v1.heap.size := by omega)) | (go_at_call 94; (with_reducible refine (reduced_any _ _ _ x y z _ hdef Hf.out).mono ?_); rintro e v3 ⟨rfl, hB3⟩; have hZ3 := hB3.size; (try simp at hZ3); (try have zl3 : w.heap.size < v3.heap.size := by omega); (try have ze3 : w.heap.size ≤ v3.heap.size := by omega); (try have zn3 : ¬ w.heap.size = v3.heap.size := by omega); (try have zm3 : ¬ v3.heap.size = w.heap.size := by omega); have hC3_0 := fun o => (calm_cells hB3).1 (w.heap.size) o (by first | omega | (simp <;> omega)); have hF3_0 := fun o => (calm_cells hB3).2 (w.heap.size) o (by first | omega | (simp <;> omega)); (try have hl3_0 : w.heap.size < v3.heap.size := by omega); (try have hm3_0 : ¬ w.heap.size = v3.heap.size := by omega); (try have hn3_0 : ¬ v3.heap.size = w.heap.size := by omega)) | go_in)
      exact bodyPost_ret (v := .tuple #[.agg #[.int .i64 x, .int .i64 y, .int .i64 z], .bool true]) (by simp [results, Tryz.results67, go_sem, *]) rfl ⟨rfl, (by repeat (first | with_reducible exact Below.refl _ _ | with_reducible assumption | with_reducible apply Below.drew | with_reducible apply below_drewN | (with_reducible apply below_setp; (first | omega | (simp <;> omega))) | (with_reducible apply below_allocp; (first | omega | (simp <;> omega))) | (with_reducible refine below_viap (by assumption) ?_ ?_; (first | omega | (simp <;> omega)))))⟩
    · have e2 : (-d % (4 * r) == 0) = false := by rw [beq_eq_false_iff_ne]; exact fun h => h7 ((rem4 h1 h3).1 h)
      clear h3 h4 h5 h6 hf h7 k
      go_enter Tryz.func67, Tryz.ntmps67
      go_wp2_with (first | (go_at_call 76; (with_reducible refine (isNegativeDisc_any _ _).mono ?_); rintro e v ⟨rfl, rfl⟩) | (go_at_call 155; (with_reducible refine (K.out _ (far_mk (by omega) (by omega)) (far_mk (by omega) (by omega)) (far_mk (by omega) (by omega))).mono ?_); rintro e v2 ⟨rfl, hB2⟩; have hZ2 := hB2.size; (try simp at hZ2); (try have zl2 : w.heap.size < v2.heap.size := by omega); (try have ze2 : w.heap.size ≤ v2.heap.size := by omega); (try have zn2 : ¬ w.heap.size = v2.heap.size := by omega); (try have zm2 : ¬ v2.heap.size = w.heap.size := by omega); have hC2_0 := fun o => (calm_cells hB2).1 (w.heap.size) o (by first | omega | (simp <;> omega)); have hF2_0 := fun o => (calm_cells hB2).2 (w.heap.size) o (by first | omega | (simp <;> omega)); (try have hl2_0 : w.heap.size < v2.heap.size := by omega); (try have hm2_0 : ¬ w.heap.size = v2.heap.size := by omega); (try have hn2_0 : ¬ v2.heap.size = w.heap.size := by omega); have hC2_1 := fun o => (calm_cells hB2).1 (w.heap.size + 1) o (by first | omega | (simp <;> omega)); have hF2_1 := fun o => (calm_cells hB2).2 (w.heap.size + 1) o (by first | omega | (simp <;> omega)); (try have hl2_1 : w.heap.size + 1 < v2.heap.size := by omega); (try have hm2_1 : ¬ w.heap.size + 1 = v2.heap.size := by omega); (try have hn2_1 : ¬ v2.heap.size = w.heap.size + 1 := by omega)) | (go_at_call 94; (with_reducible refine (reduced_any _ _ _ x y z _ hdef Hf.out).mono ?_); rintro e v3 ⟨rfl, hB3⟩; have hZ3 := hB3.size; (try simp at hZ3); (try have zl3 : w.heap.size < v3.heap.size := by omega); (try have ze3 : w.heap.size ≤ v3.heap.size := by omega); (try have zn3 : ¬ w.heap.size = v3.heap.size := by omega); (try have zm3 : ¬ v3.heap.size = w.heap.size := by omega); have hC3_0 := fun o => (calm_cells hB3).1 (w.heap.size) o (by first | omega | (simp <;> omega)); have hF3_0 := fun o => (calm_cells hB3).2 (w.heap.size) o (by first | omega | (simp <;> omega)); (try have hl3_0 : w.heap.size < v3.heap.size := by omega); (try have hm3_0 : ¬ w.heap.size = v3.heap.size := by omega); (try have hn3_0 : ¬ v3.heap.size = w.heap.size := by omega)) | go_in)
      exact bodyPost_ret (v := .tuple #[.agg #[.int .i64 x, .int .i64 y, .int .i64 z], .bool true]) (by simp [results, Tryz.results67, go_sem, *]) rfl ⟨rfl, (by repeat (first | with_reducible exact Below.refl _ _ | with_reducible assumption | with_reducible apply Below.drew | with_reducible apply below_drewN | (with_reducible apply below_setp; (first | omega | (simp <;> omega))) | (with_reducible apply below_allocp; (first | omega | (simp <;> omega))) | (with_reducible refine below_viap (by assumption) ?_ ?_; (first | omega | (simp <;> omega)))))⟩
  · obtain ⟨rfl, rfl, rfl⟩ := fm_inj h0
    obtain ⟨q1, q2⟩ := quot_bd h1 h2
    obtain ⟨b1, b2⟩ := isDisc_bd hd
    have t1 := neg_quot (d := d) (r := r) (by omega)
    have t2 := neg_rem (d := d) (r := r) (by omega)
    have t3 := neg_rem (d := d) (r := 4 * r) (by omega)
    have t4 := neg_quot (d := d) (r := 4 * r) (by omega)
    have t5 := quot4 (d := d) h1
    have e4 : (r == 0) = false := by rw [beq_eq_false_iff_ne]; omega
    have e7 : ¬ 4 * r = 0 := by omega
    have e8 : (4 * r == 0) = false := by rw [beq_eq_false_iff_ne]; omega
    have e1 : (-d % r == 0) = true := by rw [beq_iff_eq]; exact h3
    have k := content_any r r ((r + -d / r) / 4)
    rw [gcd_self_mid] at k
    have K := Lib.hid k
    have k2 := content_any r 0 (-d / r / 4)
    rw [gcd_zero_mid] at k2
    have K2 := Lib.hid k2
    clear k k2
    by_cases h7 : -d / r % 4 = 0
    · have e2 : (-d % (4 * r) == 0) = true := by rw [beq_iff_eq]; exact (rem4 h1 h3).2 h7
      have e3 : ((Int.gcd r (-d / r / 4) : Int) == 1) = false := by rw [beq_eq_false_iff_ne]; omega
      by_cases h8 : (r + -d / r) % 4 = 0
      · have e5 : ((r + -d / r) % 4 == 0) = true := by rw [beq_iff_eq]; exact h8
        have e6 : ((Int.gcd r ((r + -d / r) / 4) : Int) == 1) = false := by rw [beq_eq_false_iff_ne]; omega
        clear h3 h4 h5 h7 h8
        go_enter Tryz.func67, Tryz.ntmps67
        go_wp2_with (first | (go_at_call 76; (with_reducible refine (isNegativeDisc_any _ _).mono ?_); rintro e v ⟨rfl, rfl⟩) | (go_at_call 155; (with_reducible refine (K2.out _ (far_mk (by omega) (by omega)) (far_mk (by omega) (by omega)) (far_mk (by omega) (by omega))).mono ?_); rintro e v1 ⟨rfl, hB1⟩; have hZ1 := hB1.size; (try simp at hZ1); (try have zl1 : w.heap.size < v1.heap.size := by omega); (try have ze1 : w.heap.size ≤ v1.heap.size := by omega); (try have zn1 : ¬ w.heap.size = v1.heap.size := by omega); (try have zm1 : ¬ v1.heap.size = w.heap.size := by omega); have hC1_0 := fun o => (calm_cells hB1).1 (w.heap.size) o (by first | omega | (simp <;> omega)); have hF1_0 := fun o => (calm_cells hB1).2 (w.heap.size) o (by first | omega | (simp <;> omega)); (try have hl1_0 : w.heap.size < v1.heap.size := by omega); (try have hm1_0 : ¬ w.heap.size = v1.heap.size := by omega); (try have hn1_0 : ¬ v1.heap.size = w.heap.size := by omega); have hC1_1 := fun o => (calm_cells hB1).1 (w.heap.size + 1) o (by first | omega | (simp <;> omega)); have hF1_1 := fun o => (calm_cells hB1).2 (w.heap.size + 1) o (by first | omega | (simp <;> omega)); (try have hl1_1 : w.heap.size + 1 < v1.heap.size := by omega); (try have hm1_1 : ¬ w.heap.size + 1 = v1.heap.size := by omega); (try have hn1_1 : ¬ v1.heap.size = w.heap.size + 1 := by omega)) | (go_at_call 155; (with_reducible refine (K.out _ (far_mk (by omega) (by omega)) (far_mk (by omega) (by omega)) (far_mk (by omega) (by omega))).mono ?_); rintro e v2 ⟨rfl, hB2⟩; have hZ2 := hB2.size; (try simp at hZ2); (try have zl2 : w.heap.size < v2.heap.size := by omega); (try have ze2 : w.heap.size ≤ v2.heap.size := by omega); (try have zn2 : ¬ w.heap.size = v2.heap.size := by omega); (try have zm2 : ¬ v2.heap.size = w.heap.size := by omega); have hC2_0 := fun o => (calm_cells hB2).1 (w.heap.size) o (by first | omega | (simp <;> omega)); have hF2_0 := fun o => (calm_cells hB2).2 (w.heap.size) o (by first | omega | (simp <;> omega)); (try have hl2_0 : w.heap.size < v2.heap.size := by omega); (try have hm2_0 : ¬ w.heap.size = v2.heap.size := by omega); (try have hn2_0 : ¬ v2.heap.size = w.heap.size := by omega); have hC2_1 := fun o => (calm_cells hB2).1 (v1.heap.size) o (by first | omega | (simp <;> omega)); have hF2_1 := fun o => (calm_cells hB2).2 (v1.heap.size) o (by first | omega | (simp <;> omega)); (try have hl2_1 : v1.heap.size < v2.heap.size := by omega); (try have hm2_1 : ¬ v1.heap.size = v2.heap.size := by omega); (try have hn2_1 : ¬ v2.heap.size = v1.heap.size := by omega)) | go_in)
        exact bodyPost_ret (v := .tuple #[.agg #[.int .i64 0, .int .i64 0, .int .i64 0], .bool false]) (by simp [results, Tryz.results67, go_sem, *]) rfl ⟨rfl, (by repeat (first | with_reducible exact Below.refl _ _ | with_reducible assumption | with_reducible apply Below.drew | with_reducible apply below_drewN | (with_reducible apply below_setp; (first | omega | (simp <;> omega))) | (with_reducible apply below_allocp; (first | omega | (simp <;> omega))) | (with_reducible refine below_viap (by assumption) ?_ ?_; (first | omega | (simp <;> omega)))))⟩
      · have e5 : ((r + -d / r) % 4 == 0) = false := by rw [beq_eq_false_iff_ne]; exact h8
        clear h3 h4 h5 h7 h8
        go_enter Tryz.func67, Tryz.ntmps67
        go_wp2_with (first | (go_at_call 76; (with_reducible refine (isNegativeDisc_any _ _).mono ?_); rintro e v ⟨rfl, rfl⟩) | (go_at_call 155; (with_reducible refine (K2.out _ (far_mk (by omega) (by omega)) (far_mk (by omega) (by omega)) (far_mk (by omega) (by omega))).mono ?_); rintro e v1 ⟨rfl, hB1⟩; have hZ1 := hB1.size; (try simp at hZ1); (try have zl1 : w.heap.size < v1.heap.size := by omega); (try have ze1 : w.heap.size ≤ v1.heap.size := by omega); (try have zn1 : ¬ w.heap.size = v1.heap.size := by omega); (try have zm1 : ¬ v1.heap.size = w.heap.size := by omega); have hC1_0 := fun o => (calm_cells hB1).1 (w.heap.size) o (by first | omega | (simp <;> omega)); have hF1_0 := fun o => (calm_cells hB1).2 (w.heap.size) o (by first | omega | (simp <;> omega)); (try have hl1_0 : w.heap.size < v1.heap.size := by omega); (try have hm1_0 : ¬ w.heap.size = v1.heap.size := by omega); (try have hn1_0 : ¬ v1.heap.size = w.heap.size := by omega); have hC1_1 := fun o => (calm_cells hB1).1 (w.heap.size + 1) o (by first | omega | (simp <;> omega)); have hF1_1 := fun o => (calm_cells hB1).2 (w.heap.size + 1) o (by first | omega | (simp <;> omega)); (try have hl1_1 : w.heap.size + 1 < v1.heap.size := by omega); (try have hm1_1 : ¬ w.heap.size + 1 = v1.heap.size := by omega); (try have hn1_1 : ¬ v1.heap.size = w.heap.size + 1 := by omega)) | go_in)
        exact bodyPost_ret (v := .tuple #[.agg #[.int .i64 0, .int .i64 0, .int .i64 0], .bool false]) (by simp [results, Tryz.results67, go_sem, *]) rfl ⟨rfl, (by repeat (first | with_reducible exact Below.refl _ _ | with_reducible assumption | with_reducible apply Below.drew | with_reducible apply below_drewN | (with_reducible apply below_setp; (first | omega | (simp <;> omega))) | (with_reducible apply below_allocp; (first | omega | (simp <;> omega))) | (with_reducible refine below_viap (by assumption) ?_ ?_; (first | omega | (simp <;> omega)))))⟩
    · have e2 : (-d % (4 * r) == 0) = false := by rw [beq_eq_false_iff_ne]; exact fun h => h7 ((rem4 h1 h3).1 h)
      by_cases h8 : (r + -d / r) % 4 = 0
      · have e5 : ((r + -d / r) % 4 == 0) = true := by rw [beq_iff_eq]; exact h8
        have e6 : ((Int.gcd r ((r + -d / r) / 4) : Int) == 1) = false := by rw [beq_eq_false_iff_ne]; omega
        clear h3 h4 h5 h7 h8
        go_enter Tryz.func67, Tryz.ntmps67
        go_wp2_with (first | (go_at_call 76; (with_reducible refine (isNegativeDisc_any _ _).mono ?_); rintro e v ⟨rfl, rfl⟩) | (go_at_call 155; (with_reducible refine (K2.out _ (far_mk (by omega) (by omega)) (far_mk (by omega) (by omega)) (far_mk (by omega) (by omega))).mono ?_); rintro e v1 ⟨rfl, hB1⟩; have hZ1 := hB1.size; (try simp at hZ1); (try have zl1 : w.heap.size < v1.heap.size := by omega); (try have ze1 : w.heap.size ≤ v1.heap.size := by omega); (try have zn1 : ¬ w.heap.size = v1.heap.size := by omega); (try have zm1 : ¬ v1.heap.size = w.heap.size := by omega); have hC1_0 := fun o => (calm_cells hB1).1 (w.heap.size) o (by first | omega | (simp <;> omega)); have hF1_0 := fun o => (calm_cells hB1).2 (w.heap.size) o (by first | omega | (simp <;> omega)); (try have hl1_0 : w.heap.size < v1.heap.size := by omega); (try have hm1_0 : ¬ w.heap.size = v1.heap.size := by omega); (try have hn1_0 : ¬ v1.heap.size = w.heap.size := by omega); have hC1_1 := fun o => (calm_cells hB1).1 (w.heap.size + 1) o (by first | omega | (simp <;> omega)); have hF1_1 := fun o => (calm_cells hB1).2 (w.heap.size + 1) o (by first | omega | (simp <;> omega)); (try have hl1_1 : w.heap.size + 1 < v1.heap.size := by omega); (try have hm1_1 : ¬ w.heap.size + 1 = v1.heap.size := by omega); (try have hn1_1 : ¬ v1.heap.size = w.heap.size + 1 := by omega)) | (go_at_call 155; (with_reducible refine (K.out _ (far_mk (by omega) (by omega)) (far_mk (by omega) (by omega)) (far_mk (by omega) (by omega))).mono ?_); rintro e v2 ⟨rfl, hB2⟩; have hZ2 := hB2.size; (try simp at hZ2); (try have zl2 : w.heap.size < v2.heap.size := by omega); (try have ze2 : w.heap.size ≤ v2.heap.size := by omega); (try have zn2 : ¬ w.heap.size = v2.heap.size := by omega); (try have zm2 : ¬ v2.heap.size = w.heap.size := by omega); have hC2_0 := fun o => (calm_cells hB2).1 (w.heap.size) o (by first | omega | (simp <;> omega)); have hF2_0 := fun o => (calm_cells hB2).2 (w.heap.size) o (by first | omega | (simp <;> omega)); (try have hl2_0 : w.heap.size < v2.heap.size := by omega); (try have hm2_0 : ¬ w.heap.size = v2.heap.size := by omega); (try have hn2_0 : ¬ v2.heap.size = w.heap.size := by omega); have hC2_1 := fun o => (calm_cells hB2).1 (w.heap.size + 1) o (by first | omega | (simp <;> omega)); have hF2_1 := fun o => (calm_cells hB2).2 (w.heap.size + 1) o (by first | omega | (simp <;> omega)); (try have hl2_1 : w.heap.size + 1 < v2.heap.size := by omega); (try have hm2_1 : ¬ w.heap.size + 1 = v2.heap.size := by omega); (try have hn2_1 : ¬ v2.heap.size = w.heap.size + 1 := by omega)) | go_in)
        exact bodyPost_ret (v := .tuple #[.agg #[.int .i64 0, .int .i64 0, .int .i64 0], .bool false]) (by simp [results, Tryz.results67, go_sem, *]) rfl ⟨rfl, (by repeat (first | with_reducible exact Below.refl _ _ | with_reducible assumption | with_reducible apply Below.drew | with_reducible apply below_drewN | (with_reducible apply below_setp; (first | omega | (simp <;> omega))) | (with_reducible apply below_allocp; (first | omega | (simp <;> omega))) | (with_reducible refine below_viap (by assumption) ?_ ?_; (first | omega | (simp <;> omega)))))⟩
      · have e5 : ((r + -d / r) % 4 == 0) = false := by rw [beq_eq_false_iff_ne]; exact h8
        clear h3 h4 h5 h7 h8
        go_enter Tryz.func67, Tryz.ntmps67
        go_wp2_with (first | (go_at_call 76; (with_reducible refine (isNegativeDisc_any _ _).mono ?_); rintro e v ⟨rfl, rfl⟩) | (go_at_call 155; (with_reducible refine (K2.out _ (far_mk (by omega) (by omega)) (far_mk (by omega) (by omega)) (far_mk (by omega) (by omega))).mono ?_); rintro e v1 ⟨rfl, hB1⟩; have hZ1 := hB1.size; (try simp at hZ1); (try have zl1 : w.heap.size < v1.heap.size := by omega); (try have ze1 : w.heap.size ≤ v1.heap.size := by omega); (try have zn1 : ¬ w.heap.size = v1.heap.size := by omega); (try have zm1 : ¬ v1.heap.size = w.heap.size := by omega); have hC1_0 := fun o => (calm_cells hB1).1 (w.heap.size) o (by first | omega | (simp <;> omega)); have hF1_0 := fun o => (calm_cells hB1).2 (w.heap.size) o (by first | omega | (simp <;> omega)); (try have hl1_0 : w.heap.size < v1.heap.size := by omega); (try have hm1_0 : ¬ w.heap.size = v1.heap.size := by omega); (try have hn1_0 : ¬ v1.heap.size = w.heap.size := by omega); have hC1_1 := fun o => (calm_cells hB1).1 (w.heap.size + 1) o (by first | omega | (simp <;> omega)); have hF1_1 := fun o => (calm_cells hB1).2 (w.heap.size + 1) o (by first | omega | (simp <;> omega)); (try have hl1_1 : w.heap.size + 1 < v1.heap.size := by omega); (try have hm1_1 : ¬ w.heap.size + 1 = v1.heap.size := by omega); (try have hn1_1 : ¬ v1.heap.size = w.heap.size + 1 := by omega)) | go_in)
        exact bodyPost_ret (v := .tuple #[.agg #[.int .i64 0, .int .i64 0, .int .i64 0], .bool false]) (by simp [results, Tryz.results67, go_sem, *]) rfl ⟨rfl, (by repeat (first | with_reducible exact Below.refl _ _ | with_reducible assumption | with_reducible apply Below.drew | with_reducible apply below_drewN | (with_reducible apply below_setp; (first | omega | (simp <;> omega))) | (with_reducible apply below_allocp; (first | omega | (simp <;> omega))) | (with_reducible refine below_viap (by assumption) ?_ ?_; (first | omega | (simp <;> omega)))))⟩

end Go.Proofs.YteehcjjhkphdnaaGreat
