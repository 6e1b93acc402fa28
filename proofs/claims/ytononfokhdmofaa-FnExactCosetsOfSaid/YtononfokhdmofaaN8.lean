/- Contracts: the values of characters. -/
import Derived.Test.YtononfokhdmofaaN7
namespace Go.Proofs.Ytononfokhdmofaa
open Go.RowKit

theorem NoDiv.self {p n : Int} (h : NoDiv p n) (hp : p ∣ n) : NoDiv p p := fun q h1 h2 h3 => h q h1 h2 (Int.dvd_trans h3 hp)
theorem NoDiv.prime {p n : Int} (hp : 2 ≤ p) (h : NoDiv p n) (hpp : ¬ p * p ≤ n) : NoDiv n n := by
  rintro q h1 h2 ⟨r, hr⟩
  by_cases hq : q < p
  · exact h q h1 hq ⟨r, hr⟩
  · have hr0 : 2 ≤ r := by
      apply Int.not_lt.1; intro hl
      have h3 : q * r ≤ q * 1 := Int.mul_le_mul_of_nonneg_left (by omega) (by omega)
      omega
    have hrp : r < p := by
      apply Int.not_le.1; intro hl
      have h3 : p * p ≤ q * r := Int.mul_le_mul (by omega) hl (by omega) (by omega)
      omega
    exact h r hr0 hrp ⟨q, by rw [Int.mul_comm]; exact hr⟩
theorem fac_mem : ∀ (k : Nat) (b : Bool) (p n : Int), 2 ≤ p → 1 ≤ n → NoDiv p n → ∀ x ∈ fac k b p n, 2 ≤ x ∧ x ≤ n ∧ NoDiv x x
  | 0, _, _, _, _, _, _ => by simp [fac]
  | k + 1, false, p, n, hp, hn, hd => by
    unfold fac
    split
    · exact fac_mem k true p n hp hn hd
    · split
      · rename_i h1 h2
        intro x hx
        simp at hx
        subst hx
        exact ⟨by omega, Int.le_refl _, hd.prime hp h1⟩
      · simp
  | k + 1, true, p, n, hp, hn, hd => by
    unfold fac
    split
    · rename_i h
      obtain ⟨q1, q2⟩ := div_lt hn hp h
      have hpn : p ∣ n := Int.dvd_of_emod_eq_zero h
      have ih := fac_mem k true p (n / p) hp q1 (hd.div h)
      intro x hx
      simp only [List.mem_cons] at hx
      rcases hx with rfl | hx
      · exact ⟨hp, Int.le_of_dvd (by omega) hpn, hd.self hpn⟩
      · obtain ⟨i1, i2, i3⟩ := ih x hx
        exact ⟨i1, by omega, i3⟩
    · rename_i h
      exact fac_mem k false (p + 1) n (by omega) hn (hd.next h)
theorem addD_sub (P : List Int) (f : Int) : ∀ x ∈ addD P f, x ∈ P ∨ x = f := by
  unfold addD
  split
  · intro x hx; exact .inl hx
  · intro x hx; simpa using hx
theorem fold_sub : ∀ (F P : List Int), ∀ x ∈ F.foldl addD P, x ∈ P ∨ x ∈ F
  | [], P => by intro x hx; exact .inl hx
  | f :: F, P => by
    intro x hx
    simp only [List.foldl_cons] at hx
    rcases fold_sub F _ x hx with h | h
    · rcases addD_sub P f x h with h | h
      · exact .inl h
      · exact .inr (by simp [h])
    · exact .inr (by simp [h])
theorem prims_mem {n : Int} (hn : 1 ≤ n) : ∀ x ∈ prims n, 2 ≤ x ∧ x ≤ n ∧ NoDiv x x := by
  intro x hx
  rcases fold_sub (facL n) [] x hx with h | h
  · simp at h
  · exact fac_mem _ _ _ _ (by omega) hn (fun q h1 h2 _ => by omega) x h
theorem prims_odd {n x : Int} (hn : 1 ≤ n) (hx : x ∈ prims n) (h2 : 2 < x) : x % 2 = 1 := by
  obtain ⟨_, _, h⟩ := prims_mem hn x hx
  have := h 2 (by omega) h2
  have h3 : ¬ x % 2 = 0 := fun e => this (Int.dvd_of_emod_eq_zero e)
  omega

/-- The value of a character (its kind and its prime). -/
def chi (x : Int × Int) (n : Int) : Int := if x.1 = 1 then jacS (n % x.2) x.2 else if n % 2 = 0 then 0 else if x.1 = 2 then 2 - n % 4 else if x.1 = 3 then two n else (2 - n % 4) * two n
theorem tm2 (n : Int) : n.tmod 2 = 0 ↔ n % 2 = 0 := by
  rw [← Int.dvd_iff_tmod_eq_zero, Int.dvd_iff_emod_eq_zero]
def ChOK (x : Int × Int) : Prop := (x.1 = 1 ∧ 0 < x.2 ∧ x.2 ≤ 200000 ∧ x.2 % 2 = 1) ∨ (x.1 = 2 ∧ x.2 = 0) ∨ (x.1 = 3 ∧ x.2 = 0) ∨ (x.1 = 4 ∧ x.2 = 0)

set_option maxHeartbeats 1600000 in
theorem chValue_any (x : Int × Int) (n : Int) (w : World) (hx : ChOK x) (_h0 : -1000000000000000 ≤ n) (_h1 : n ≤ 1000000000000000) :
    Calls Try.prog 158 #[.agg #[.int .i64 x.1, .int .i64 x.2], .int .i64 n] w fun e w' => e = .returned (.int .i64 (chi x n)) ∧ Below w.heap.size w w' := by
  obtain ⟨k, p⟩ := x
  obtain ⟨t, ht⟩ : ∃ t, chi (k, p) n = t := ⟨_, rfl⟩
  rw [ht]
  have m0 := Int.emod_nonneg n (show (4 : Int) ≠ 0 by omega)
  have m1 := Int.emod_lt_of_pos n (show (0 : Int) < 4 by omega)
  have hM := Lib.hid (fun w => mod_any n 4 w (by omega) (by omega))
  have hT := Lib.hid (fun w => symbolOfTwo_any n w)
  have hsg := two_sg n
  unfold chi at ht
  simp only at ht ⊢
  rcases hx with ⟨hk, p0, p1, po⟩ | ⟨hk, hp⟩ | ⟨hk, hp⟩ | ⟨hk, hp⟩
  · simp only at hk p0 p1 po
    subst hk
    rw [if_pos rfl] at ht
    have hJ := Lib.hid (fun w => jacobi_any n p w p0 (by omega) po)
    rw [ht] at hJ
    clear ht po hsg hM hT
    go_enter Try.func158, Try.ntmps158
    go_wp2_with (go_at_call 177; (with_reducible refine (hJ.out _).mono ?_); rintro e v ⟨rfl, rfl⟩)
    go_ret
    exact ⟨rfl, (by repeat (first | with_reducible exact Below.refl _ _ | with_reducible assumption | with_reducible apply Below.drew | with_reducible apply below_drewN | (with_reducible apply below_setp; (first | omega | (simp <;> omega))) | (with_reducible apply below_allocp; (first | omega | (simp <;> omega))) | (with_reducible refine below_viap (by assumption) ?_ ?_; (first | omega | (simp <;> omega)))))⟩
  all_goals
    simp only at hk hp
    subst hk; subst hp
    by_cases he : n % 2 = 0
    · have e1 : (n.tmod 2 == 0) = true := by rw [beq_iff_eq]; exact (tm2 n).2 he
      have hx := Lib.hid (show 0 = t by rw [← ht, if_neg (by omega), if_pos he])
      clear ht he hsg hM hT
      go_enter Try.func158, Try.ntmps158
      go_wp2
      go_ret
      exact ⟨ret_int hx.out, (by repeat (first | with_reducible exact Below.refl _ _ | with_reducible assumption | with_reducible apply Below.drew | with_reducible apply below_drewN | (with_reducible apply below_setp; (first | omega | (simp <;> omega))) | (with_reducible apply below_allocp; (first | omega | (simp <;> omega))) | (with_reducible refine below_viap (by assumption) ?_ ?_; (first | omega | (simp <;> omega)))))⟩
    · have e1 : (n.tmod 2 == 0) = false := by rw [beq_eq_false_iff_ne]; exact fun h => he ((tm2 n).1 h)
      rw [if_neg (by omega), if_neg he] at ht
      simp only [Int.reduceEq, if_true, if_false] at ht
      have hx := Lib.hid ht
      have hs1 : -1 ≤ two n ∧ two n ≤ 1 := by rcases hsg with h | h <;> rw [h] <;> omega
      obtain ⟨hs1, hs2⟩ := hs1
      have hpr := mul_bd (a := 2 - n % 4) (x := two n) (A := 2) (X := 1) (by omega) (by omega) (by omega) (by omega)
      obtain ⟨hp1, hp2⟩ := hpr
      generalize two n = s at *
      generalize n % 4 = r at *
      clear ht he hsg
      go_enter Try.func158, Try.ntmps158
      go_wp2_with (first | (go_at_call 118; (with_reducible refine (hM.out _).mono ?_); rintro e v ⟨rfl, rfl⟩) | (go_at_call 178; (with_reducible refine (hT.out _).mono ?_); rintro e v ⟨rfl, rfl⟩))
      go_ret
      exact ⟨ret_int hx.out, (by repeat (first | with_reducible exact Below.refl _ _ | with_reducible assumption | with_reducible apply Below.drew | with_reducible apply below_drewN | (with_reducible apply below_setp; (first | omega | (simp <;> omega))) | (with_reducible apply below_allocp; (first | omega | (simp <;> omega))) | (with_reducible refine below_viap (by assumption) ?_ ?_; (first | omega | (simp <;> omega)))))⟩

set_option maxHeartbeats 1600000 in
theorem chAt_any (x : Int × Int) (n : Int) (w : World) (hx : ChOK x) (_h0 : -1000000000000000 ≤ n) (_h1 : n ≤ 1000000000000000) :
    Calls Try.prog 134 #[.agg #[.int .i64 x.1, .int .i64 x.2], .int .i64 n] w fun e w' => e = .returned (.int .i64 (chi x n)) ∧ Below w.heap.size w w' := by
  obtain ⟨k, p⟩ := x
  obtain ⟨t, ht⟩ : ∃ t, chi (k, p) n = t := ⟨_, rfl⟩
  rw [ht]
  have m0 := Int.emod_nonneg n (show (4 : Int) ≠ 0 by omega)
  have m1 := Int.emod_lt_of_pos n (show (0 : Int) < 4 by omega)
  have hM := Lib.hid (fun w => nuMod_any n 4 w (by omega) (by omega))
  have hsg := two_sg n
  unfold chi at ht
  simp only at ht ⊢
  rcases hx with ⟨hk, p0, p1, po⟩ | ⟨hk, hp⟩ | ⟨hk, hp⟩ | ⟨hk, hp⟩
  · simp only at hk p0 p1 po
    subst hk
    rw [if_pos rfl] at ht
    have hJ := Lib.hid (fun w => syJacobi_any n p w p0 (by omega) po)
    rw [ht] at hJ
    clear ht po hsg hM
    go_enter Try.func134, Try.ntmps134
    go_wp2_with (go_at_call 160; (with_reducible refine (hJ.out _).mono ?_); rintro e v1 ⟨rfl, hB1⟩; have hZ1 := hB1.size; (try simp at hZ1); (try have zl1 : w.heap.size < v1.heap.size := by omega); (try have ze1 : w.heap.size ≤ v1.heap.size := by omega); (try have zn1 : ¬ w.heap.size = v1.heap.size := by omega); (try have zm1 : ¬ v1.heap.size = w.heap.size := by omega); have hC1_0 := fun o => (calm_cells hB1).1 (w.heap.size) o (by first | omega | (simp <;> omega)); have hF1_0 := fun o => (calm_cells hB1).2 (w.heap.size) o (by first | omega | (simp <;> omega)); (try have hl1_0 : w.heap.size < v1.heap.size := by omega); (try have hm1_0 : ¬ w.heap.size = v1.heap.size := by omega); (try have hn1_0 : ¬ v1.heap.size = w.heap.size := by omega))
    go_ret
    exact ⟨rfl, (by repeat (first | with_reducible exact Below.refl _ _ | with_reducible assumption | with_reducible apply Below.drew | with_reducible apply below_drewN | (with_reducible apply below_setp; (first | omega | (simp <;> omega))) | (with_reducible apply below_allocp; (first | omega | (simp <;> omega))) | (with_reducible refine below_viap (by assumption) ?_ ?_; (first | omega | (simp <;> omega)))))⟩
  all_goals
    simp only at hk hp
    subst hk; subst hp
    by_cases he : n % 2 = 0
    · have e1 : (n.tmod 2 == 0) = true := by rw [beq_iff_eq]; exact (tm2 n).2 he
      have hx := Lib.hid (show 0 = t by rw [← ht, if_neg (by omega), if_pos he])
      clear ht he hsg hM
      go_enter Try.func134, Try.ntmps134
      go_wp2
      go_ret
      exact ⟨ret_int hx.out, (by repeat (first | with_reducible exact Below.refl _ _ | with_reducible assumption | with_reducible apply Below.drew | with_reducible apply below_drewN | (with_reducible apply below_setp; (first | omega | (simp <;> omega))) | (with_reducible apply below_allocp; (first | omega | (simp <;> omega))) | (with_reducible refine below_viap (by assumption) ?_ ?_; (first | omega | (simp <;> omega)))))⟩
    · have e1 : (n.tmod 2 == 0) = false := by rw [beq_eq_false_iff_ne]; exact fun h => he ((tm2 n).1 h)
      have hT := Lib.hid (fun w => syTwo_any n w (by omega))
      rw [if_neg (by omega), if_neg he] at ht
      simp only [Int.reduceEq, if_true, if_false] at ht
      have hx := Lib.hid ht
      have hs1 : -1 ≤ two n ∧ two n ≤ 1 := by rcases hsg with h | h <;> rw [h] <;> omega
      obtain ⟨hs1, hs2⟩ := hs1
      have hpr := mul_bd (a := 2 - n % 4) (x := two n) (A := 2) (X := 1) (by omega) (by omega) (by omega) (by omega)
      obtain ⟨hp1, hp2⟩ := hpr
      generalize two n = s at *
      generalize n % 4 = r at *
      clear ht he hsg
      go_enter Try.func134, Try.ntmps134
      go_wp2_with (first | (go_at_call 114; (with_reducible refine (hM.out _).mono ?_); rintro e v ⟨rfl, rfl⟩) | (go_at_call 161; (with_reducible refine (hT.out _).mono ?_); rintro e v ⟨rfl, rfl⟩))
      go_ret
      exact ⟨ret_int hx.out, (by repeat (first | with_reducible exact Below.refl _ _ | with_reducible assumption | with_reducible apply Below.drew | with_reducible apply below_drewN | (with_reducible apply below_setp; (first | omega | (simp <;> omega))) | (with_reducible apply below_allocp; (first | omega | (simp <;> omega))) | (with_reducible refine below_viap (by assumption) ?_ ?_; (first | omega | (simp <;> omega)))))⟩
end Go.Proofs.Ytononfokhdmofaa
