/- Contracts: a point is completed to a matrix, for all shown forms, by the program. -/
import Derived.Test.YtkpiiicefmkhcaaIB
import Derived.Test.YtkpiiicefmkhcaaUA
import Derived.Deep.RegionHeld3
namespace Go.Proofs.Ytkpiiicefmkhcaa
open Go.RowKit

set_option maxHeartbeats 400000 in
theorem at_w (a b c x y : Int) (w : World) :
    Calls Try.prog 143 #[.agg #[.int .i64 a, .int .i64 b, .int .i64 c], .int .i64 x, .int .i64 y] w fun e w' => e = .returned (.int .i64 (atV a b c x y)) ∧ Below w.heap.size w w' := by
  go_enter Try.func143, Try.ntmps143
  go_wp2
  go_ret
  exact ⟨ret_int (by unfold atV; rfl), (by repeat (first | with_reducible exact Below.refl _ _ | with_reducible assumption | with_reducible apply Below.drew | with_reducible apply below_drewN | (with_reducible apply below_setp; (first | omega | (simp <;> omega))) | (with_reducible apply below_allocp; (first | omega | (simp <;> omega))) | (with_reducible refine below_viap (by assumption) ?_ ?_; (first | omega | (simp <;> omega)))))⟩
set_option maxHeartbeats 400000 in
theorem polar_w (a b c x y u v : Int) (w : World) :
    Calls Try.prog 199 #[.agg #[.int .i64 a, .int .i64 b, .int .i64 c], .int .i64 x, .int .i64 y, .int .i64 u, .int .i64 v] w fun e w' => e = .returned (.int .i64 (polV a b c x y u v)) ∧ Below w.heap.size w w' := by
  go_enter Try.func199, Try.ntmps199
  go_wp2
  go_ret
  exact ⟨ret_int (by unfold polV; rfl), (by repeat (first | with_reducible exact Below.refl _ _ | with_reducible assumption | with_reducible apply Below.drew | with_reducible apply below_drewN | (with_reducible apply below_setp; (first | omega | (simp <;> omega))) | (with_reducible apply below_allocp; (first | omega | (simp <;> omega))) | (with_reducible refine below_viap (by assumption) ?_ ?_; (first | omega | (simp <;> omega)))))⟩
set_option maxHeartbeats 800000 in
theorem substitute_w (a b c p q r s A B C : Int) (w : World) (h1 : atV a b c p r = A) (h2 : polV a b c p r q s = B) (h3 : atV a b c q s = C) :
    Calls Try.prog 158 #[.agg #[.int .i64 a, .int .i64 b, .int .i64 c], .agg #[.int .i64 p, .int .i64 q, .int .i64 r, .int .i64 s]] w fun e w' =>
      e = .returned (.agg #[.int .i64 A, .int .i64 B, .int .i64 C]) ∧ Below w.heap.size w w' := by
  subst h1; subst h2; subst h3
  go_enter Try.func158, Try.ntmps158
  go_wp2
  refine wp_region_calm 23 (Below (w.heap.size + 3) _) (by kernel_rfl) (by kernel_rfl) ((Below.refl _ _).drew) ?_
  simp only [List.take_succ_cons, List.take_zero, List.drop_succ_cons, List.drop_zero]
  repeat (first | (apply wpCalm_go; go_simp; (intro w' hw' hcc hff; go_simp; first | exact rfl | (refine (at_w a b c _ _ _).mono ?_; rintro e w1 ⟨rfl, hb⟩; exact ⟨rfl, calm_call (by simp <;> omega) hw' hb⟩) | (refine (polar_w a b c _ _ _ _ _).mono ?_; rintro e w1 ⟨rfl, hb⟩; exact ⟨rfl, calm_call (by simp <;> omega) hw' hb⟩)); (intro K hK; go_simp; refine hK _ ?_; clear hK K)) | (apply wpCalm_skip; go_simp; (try (focus (simp [undef]; done))); (intro K hK; go_simp; refine hK _ ?_; clear hK K)))
  refine wpCalm_nil ?_
  intro w1 hw1
  have hcc := (calm_cells hw1).1
  have hff := (calm_cells hw1).2
  have hss := calm_size hw1
  have hsz := hw1.size
  (try simp at hsz)
  go_wp2
  exact bodyPost_ret (v := .agg #[.int .i64 (atV a b c p r), .int .i64 (polV a b c p r q s), .int .i64 (atV a b c q s)]) (by simp [results, Try.results158, go_sem, *]) rfl ⟨rfl, (by repeat (first | with_reducible exact Below.refl _ _ | with_reducible assumption | with_reducible apply Below.drew | with_reducible apply below_drewN | (with_reducible apply below_setp; (first | omega | (simp <;> omega))) | (with_reducible apply below_allocp; (first | omega | (simp <;> omega))) | (with_reducible refine below_viap (by assumption) ?_ ?_; (first | omega | (simp <;> omega)))))⟩
theorem wrap_fit {x : Int} (h1 : -9000000000000000000 ≤ x) (h2 : x ≤ 9000000000000000000) : wrap64 x = x := by unfold wrap64; omega
section
variable {a b c x y S Q T E P : Int}
theorem CpD.C1 (h : CpD a b c x y S Q T E P) : 0 < atF a b c (Q + T * x) (S + T * y) ∧ atF a b c (Q + T * x) (S + T * y) ≤ E + 500 := by
  have hC := h.C
  have he := h.E0
  have hd := h.D0
  have h2 := Int.emod_nonneg P (show 2 * E ≠ 0 by omega)
  have h3 := Int.emod_lt_of_pos P (show 0 < 2 * E by omega)
  generalize atF a b c (Q + T * x) (S + T * y) = C at *
  generalize P % (2 * E) = p at *
  have k0 := Int.mul_nonneg h2 h2
  have k1 : p * p ≤ (2 * E) * (2 * E) := Int.mul_le_mul (by omega) (by omega) h2 (by omega)
  have e1 : (2 * E) * (2 * E) = 4 * E * E := by grind
  have h5 : 0 < C := pos_of_mul (show 0 < 4 * E by omega) (by omega)
  refine ⟨h5, ?_⟩
  apply Int.not_lt.1
  intro hl
  have k2 : 4 * E * (E + 501) ≤ 4 * E * C := Int.mul_le_mul_of_nonneg_left (by omega) (by omega)
  rw [Int.mul_add] at k2
  omega
theorem CpD.ok (h : CpD a b c x y S Q T E P) : AtOK a b c x y ∧ PolOK a b c x y Q S ∧ AtOK a b c Q S := by
  obtain ⟨h1, h2, h3⟩ := h.bd
  obtain ⟨_, ⟨s1, s2⟩, q⟩ := h.SQ
  have hx := h.hx; have hy := h.hy
  exact ⟨(at_big h1 h2 h3 ⟨by omega, by omega⟩ ⟨by omega, by omega⟩).1, (pol_big h1 h2 h3 hx hy q ⟨by omega, by omega⟩).1, (at_big h1 h2 h3 q ⟨by omega, by omega⟩).1⟩
/-- What the second substitution gives, as Go reckons. -/
theorem CpD.wr (h : CpD a b c x y S Q T E P) : atV a b c x y = E ∧ polV a b c x y (Q + T * x) (S + T * y) = P % (2 * E) ∧ atV a b c (Q + T * x) (S + T * y) = atF a b c (Q + T * x) (S + T * y) := by
  have he := h.E0
  have hc := h.C1
  have h2 := Int.emod_nonneg P (show 2 * E ≠ 0 by omega)
  have h3 := Int.emod_lt_of_pos P (show 0 < 2 * E by omega)
  refine ⟨?_, ?_, ?_⟩
  · rw [atV_eq, ← h.eE]; exact wrap_fit (by omega) (by omega)
  · rw [polV_eq, h.hbm.1]; exact wrap_fit (by omega) (by omega)
  · rw [atV_eq]; exact wrap_fit (by omega) (by omega)
end

set_option maxRecDepth 100000 in
set_option maxHeartbeats 1600000 in
theorem complete2_any (a b c x y S Q T E P : Int) (w : World) (h : CpD a b c x y S Q T E P) :
    Calls Try.prog 202 #[.agg #[.int .i64 a, .int .i64 b, .int .i64 c], .int .i64 x, .int .i64 y] w fun e w' =>
      e = .returned (.tuple #[.agg #[.int .i64 E, .int .i64 (P % (2 * E)), .int .i64 (atF a b c (Q + T * x) (S + T * y))], .agg #[.int .i64 x, .int .i64 (Q + T * x), .int .i64 y, .int .i64 (S + T * y)]]) ∧ Below w.heap.size w w' := by
  obtain ⟨f1, f2, f3⟩ := h.ok
  obtain ⟨w1, w2, w3⟩ := h.wr
  obtain ⟨e1, e2⟩ := h.E0
  obtain ⟨p1, p2⟩ := h.P0
  obtain ⟨t1, t2⟩ := h.T0
  obtain ⟨⟨m1, m2⟩, ⟨n1, n2⟩⟩ := h.TX
  obtain ⟨x1, x2⟩ := h.hx; obtain ⟨y1, y2⟩ := h.hy
  obtain ⟨bid, ⟨s1, s2⟩, ⟨q1, q2⟩⟩ := h.SQ
  have hg := h.hg
  have eS := h.eS
  have eQ := h.eQ
  have hT := h.eT
  have hfl : ∀ w, Calls Try.prog 198 #[.int .i64 P, .int .i64 (2 * E)] w fun e w' => e = .returned (.int .i64 (-T)) ∧ w = w' := by
    intro w
    have := floorDiv_any P (2 * E) w (by omega) (by omega) (by omega) (by omega)
    rw [hT, Int.neg_neg]; exact this
  have Hfl := Lib.hid hfl
  have s_any : ∀ w, Calls Try.prog 158 #[.agg #[.int .i64 a, .int .i64 b, .int .i64 c], .agg #[.int .i64 x, .int .i64 Q, .int .i64 y, .int .i64 S]] w fun e w' =>
      e = .returned (.agg #[.int .i64 E, .int .i64 P, .int .i64 (atF a b c Q S)]) ∧ Below w.heap.size w w' := by
    intro w
    have := substitute_any a b c x Q y S w f1 f2 f3
    rwa [← h.eE, ← h.eP] at this
  have s_any := Lib.hid s_any
  have s_any2 := Lib.hid (fun w => substitute_w a b c x (Q + T * x) y (S + T * y) _ _ _ w w1 w2 w3)
  generalize P % (2 * E) = P2 at *
  generalize atF a b c Q S = R at *
  generalize atF a b c (Q + T * x) (S + T * y) = R2 at *
  clear h f1 f2 f3 w1 w2 w3 hT hfl
  by_cases h0 : y = 0
  · subst h0
    have e1' : Q = 0 := by rw [eQ]; unfold cpQ; rw [if_pos rfl]
    have e2' : S = x := by rw [eS]; unfold cpS; rw [if_pos rfl]
    subst e1'
    subst e2'
    clear eS eQ
    have e3' : 0 + T * S = T * S := by omega
    have e4' : S + T * 0 = S := by omega
    rw [e3', e4'] at s_any2 ⊢
    clear bid e3' e4' hg
    go_enter Try.func202, Try.ntmps202
    go_wp2_with (first
      | (go_at_call 158; (with_reducible refine (s_any.out _).mono ?_); rintro e v1 ⟨rfl, hB1⟩; have hZ1 := hB1.size; (try simp at hZ1); (try have zl1 : w.heap.size < v1.heap.size := by omega); (try have ze1 : w.heap.size ≤ v1.heap.size := by omega); (try have zn1 : ¬ w.heap.size = v1.heap.size := by omega); (try have zm1 : ¬ v1.heap.size = w.heap.size := by omega); have hA1 : Blk v1 (w.heap.size) 35 #[.int .i64 a, .int .i64 b, .int .i64 c] := Blk.call (by (repeat (first | with_reducible assumption | (with_reducible apply Blk.new_at; (first | rfl | (simp; done))) | with_reducible apply Blk.store3 | with_reducible apply Blk.store4 | (with_reducible apply Blk.farp; (first | omega | (simp <;> omega))) | with_reducible apply Blk.allocp | with_reducible apply Blk.drew | with_reducible apply Blk.drewN))) hB1; have cA1 := hA1.cell; have fA1 := hA1.frozen; have lA1 := hA1.lt; have mA1 := Nat.ne_of_gt lA1; have nA1 := Nat.ne_of_lt lA1; have hR1 : Blk v1 (w.heap.size + 1) 35 #[.int .i64 0, .int .i64 0, .int .i64 0] := Blk.call (by (repeat (first | with_reducible assumption | (with_reducible apply Blk.new_at; (first | rfl | (simp; done))) | with_reducible apply Blk.store3 | with_reducible apply Blk.store4 | (with_reducible apply Blk.farp; (first | omega | (simp <;> omega))) | with_reducible apply Blk.allocp | with_reducible apply Blk.drew | with_reducible apply Blk.drewN))) hB1; have cR1 := hR1.cell; have fR1 := hR1.frozen; have lR1 := hR1.lt; have mR1 := Nat.ne_of_gt lR1; have nR1 := Nat.ne_of_lt lR1; have hX1 : Blk v1 (w.heap.size + 1 + 1) 49 #[.int .i64 0, .int .i64 0, .int .i64 0, .int .i64 0] := Blk.call (by (repeat (first | with_reducible assumption | (with_reducible apply Blk.new_at; (first | rfl | (simp; done))) | with_reducible apply Blk.store3 | with_reducible apply Blk.store4 | (with_reducible apply Blk.farp; (first | omega | (simp <;> omega))) | with_reducible apply Blk.allocp | with_reducible apply Blk.drew | with_reducible apply Blk.drewN))) hB1; have cX1 := hX1.cell; have fX1 := hX1.frozen; have lX1 := hX1.lt; have mX1 := Nat.ne_of_gt lX1; have nX1 := Nat.ne_of_lt lX1; have hM1 : Blk v1 (w.heap.size + 1 + 1 + 1) 49 #[.int .i64 S, .int .i64 0, .int .i64 0, .int .i64 S] := Blk.call (by (repeat (first | with_reducible assumption | (with_reducible apply Blk.new_at; (first | rfl | (simp; done))) | with_reducible apply Blk.store3 | with_reducible apply Blk.store4 | (with_reducible apply Blk.farp; (first | omega | (simp <;> omega))) | with_reducible apply Blk.allocp | with_reducible apply Blk.drew | with_reducible apply Blk.drewN))) hB1; have cM1 := hM1.cell; have fM1 := hM1.frozen; have lM1 := hM1.lt; have mM1 := Nat.ne_of_gt lM1; have nM1 := Nat.ne_of_lt lM1)
      | (go_at_call 198; (with_reducible refine (Hfl.out _).mono ?_); rintro e v ⟨rfl, rfl⟩))
    clear s_any Hfl hA1 hR1 hX1 hM1
    have k2 : ¬ w.heap.size = w.heap.size + 1 + 1 := by omega
    have k3 : ¬ w.heap.size + 1 + 1 = w.heap.size := by omega
    have k4 : ¬ w.heap.size + 1 + 1 + 1 = w.heap.size + 1 := by omega
    have k5 : ¬ w.heap.size + 1 = w.heap.size + 1 + 1 + 1 := by omega
    have k6 : ¬ w.heap.size = w.heap.size + 1 + 1 + 1 := by omega
    have k7 : ¬ w.heap.size + 1 + 1 + 1 = w.heap.size := by omega
    go_region_held3 (fun w' => w'.cell? ⟨w.heap.size, 0, none⟩ = some (.int .i64 (a)) ∧ w'.cell? ⟨w.heap.size, 1, none⟩ = some (.int .i64 (b)) ∧ w'.cell? ⟨w.heap.size, 2, none⟩ = some (.int .i64 (c)) ∧ w'.cell? ⟨w.heap.size + 1 + 1 + 1, 0, none⟩ = some (.int .i64 (S)) ∧ w'.cell? ⟨w.heap.size + 1 + 1 + 1, 1, none⟩ = some (.int .i64 (T * S)) ∧ w'.cell? ⟨w.heap.size + 1 + 1 + 1, 2, none⟩ = some (.int .i64 (0)) ∧ w'.cell? ⟨w.heap.size + 1 + 1 + 1, 3, none⟩ = some (.int .i64 (S))) (first | (go_keep; done) | (go_simp; done)) ((go_at_call 158; (with_reducible refine (s_any2.out _).mono ?_); rintro e h2 ⟨rfl, hb2⟩; have hcc := (calm_cells hb2).1; have hff := (calm_cells hb2).2; have hsz2 := hb2.size; (try simp at hsz2); have g2_0 := fun o => hcc (w.heap.size) o (by first | omega | (simp <;> omega)); have g2_1 := fun o => hff (w.heap.size) o (by first | omega | (simp <;> omega)); have g2_2 := fun o => hcc (w.heap.size + 1 + 1 + 1) o (by first | omega | (simp <;> omega)); have g2_3 := fun o => hff (w.heap.size + 1 + 1 + 1) o (by first | omega | (simp <;> omega)); have g2_4 := fun o => hcc (w.heap.size + 1) o (by first | omega | (simp <;> omega)); have g2_5 := fun o => hff (w.heap.size + 1) o (by first | omega | (simp <;> omega)); have g2_6 := fun o => hcc (w.heap.size + 1 + 1) o (by first | omega | (simp <;> omega)); have g2_7 := fun o => hff (w.heap.size + 1 + 1) o (by first | omega | (simp <;> omega)); clear hcc hff))
    go_wp2
    exact bodyPost_ret (v := .tuple #[.agg #[.int .i64 E, .int .i64 P2, .int .i64 R2], .agg #[.int .i64 S, .int .i64 (T * S), .int .i64 0, .int .i64 S]]) (by simp [results, Try.results202, go_sem, *]) rfl ⟨rfl, (by repeat (first | with_reducible exact Below.refl _ _ | with_reducible assumption | with_reducible apply Below.drew | with_reducible apply below_drewN | (with_reducible apply below_setp; (first | omega | (simp <;> omega))) | (with_reducible apply below_allocp; (first | omega | (simp <;> omega))) | (with_reducible refine below_viap (by assumption) ?_ ?_; (first | omega | (simp <;> omega)))))⟩
  · have hc := fun w => inverse_c x (y.natAbs : Nat) w (by omega) (by omega) (by rw [Int.gcd_eq_natAbs_gcd_natAbs] at hg ⊢; simpa using hg)
    have e2' : S = invF x (y.natAbs : Nat) := by rw [eS]; unfold cpS; rw [if_neg h0]
    rw [← e2'] at hc
    have Hc := Lib.hid hc
    have b0 := mul_bd (a := x) (x := S) (A := 1000) (X := 1000) (by omega) (by omega) (by omega) (by omega)
    obtain ⟨b1, b2⟩ := b0
    have e0 : (x * S - 1).tdiv y = Q := by
      rw [show x * S - 1 = Q * y by omega, Int.mul_tdiv_cancel _ h0]
    have e1' : (y == 0) = false := by rw [beq_eq_false_iff_ne]; exact h0
    clear bid eS eQ hc e2' hg
    go_enter Try.func202, Try.ntmps202
    go_wp2_with (first
      | (go_at_call 61; (with_reducible refine (abs_any y _ (by omega) (by omega)).mono ?_); rintro e v ⟨rfl, rfl⟩)
      | (go_at_call 216; (with_reducible refine (Hc.out _).mono ?_); rintro e v ⟨rfl, rfl⟩)
      | (go_at_call 158; (with_reducible refine (s_any.out _).mono ?_); rintro e v1 ⟨rfl, hB1⟩; have hZ1 := hB1.size; (try simp at hZ1); (try have zl1 : w.heap.size < v1.heap.size := by omega); (try have ze1 : w.heap.size ≤ v1.heap.size := by omega); (try have zn1 : ¬ w.heap.size = v1.heap.size := by omega); (try have zm1 : ¬ v1.heap.size = w.heap.size := by omega); have hA1 : Blk v1 (w.heap.size) 35 #[.int .i64 a, .int .i64 b, .int .i64 c] := Blk.call (by (repeat (first | with_reducible assumption | (with_reducible apply Blk.new_at; (first | rfl | (simp; done))) | with_reducible apply Blk.store3 | with_reducible apply Blk.store4 | (with_reducible apply Blk.farp; (first | omega | (simp <;> omega))) | with_reducible apply Blk.allocp | with_reducible apply Blk.drew | with_reducible apply Blk.drewN))) hB1; have cA1 := hA1.cell; have fA1 := hA1.frozen; have lA1 := hA1.lt; have mA1 := Nat.ne_of_gt lA1; have nA1 := Nat.ne_of_lt lA1; have hR1 : Blk v1 (w.heap.size + 1) 35 #[.int .i64 0, .int .i64 0, .int .i64 0] := Blk.call (by (repeat (first | with_reducible assumption | (with_reducible apply Blk.new_at; (first | rfl | (simp; done))) | with_reducible apply Blk.store3 | with_reducible apply Blk.store4 | (with_reducible apply Blk.farp; (first | omega | (simp <;> omega))) | with_reducible apply Blk.allocp | with_reducible apply Blk.drew | with_reducible apply Blk.drewN))) hB1; have cR1 := hR1.cell; have fR1 := hR1.frozen; have lR1 := hR1.lt; have mR1 := Nat.ne_of_gt lR1; have nR1 := Nat.ne_of_lt lR1; have hX1 : Blk v1 (w.heap.size + 1 + 1) 49 #[.int .i64 0, .int .i64 0, .int .i64 0, .int .i64 0] := Blk.call (by (repeat (first | with_reducible assumption | (with_reducible apply Blk.new_at; (first | rfl | (simp; done))) | with_reducible apply Blk.store3 | with_reducible apply Blk.store4 | (with_reducible apply Blk.farp; (first | omega | (simp <;> omega))) | with_reducible apply Blk.allocp | with_reducible apply Blk.drew | with_reducible apply Blk.drewN))) hB1; have cX1 := hX1.cell; have fX1 := hX1.frozen; have lX1 := hX1.lt; have mX1 := Nat.ne_of_gt lX1; have nX1 := Nat.ne_of_lt lX1; have hM1 : Blk v1 (w.heap.size + 1 + 1 + 1) 49 #[.int .i64 x, .int .i64 Q, .int .i64 y, .int .i64 S] := Blk.call (by (repeat (first | with_reducible assumption | (with_reducible apply Blk.new_at; (first | rfl | (simp; done))) | with_reducible apply Blk.store3 | with_reducible apply Blk.store4 | (with_reducible apply Blk.farp; (first | omega | (simp <;> omega))) | with_reducible apply Blk.allocp | with_reducible apply Blk.drew | with_reducible apply Blk.drewN))) hB1; have cM1 := hM1.cell; have fM1 := hM1.frozen; have lM1 := hM1.lt; have mM1 := Nat.ne_of_gt lM1; have nM1 := Nat.ne_of_lt lM1)
      | (go_at_call 198; (with_reducible refine (Hfl.out _).mono ?_); rintro e v ⟨rfl, rfl⟩))
    clear s_any Hfl hA1 hR1 hX1 hM1
    have k2 : ¬ w.heap.size = w.heap.size + 1 + 1 := by omega
    have k3 : ¬ w.heap.size + 1 + 1 = w.heap.size := by omega
    have k4 : ¬ w.heap.size + 1 + 1 + 1 = w.heap.size + 1 := by omega
    have k5 : ¬ w.heap.size + 1 = w.heap.size + 1 + 1 + 1 := by omega
    have k6 : ¬ w.heap.size = w.heap.size + 1 + 1 + 1 := by omega
    have k7 : ¬ w.heap.size + 1 + 1 + 1 = w.heap.size := by omega
    go_region_held3 (fun w' => w'.cell? ⟨w.heap.size, 0, none⟩ = some (.int .i64 (a)) ∧ w'.cell? ⟨w.heap.size, 1, none⟩ = some (.int .i64 (b)) ∧ w'.cell? ⟨w.heap.size, 2, none⟩ = some (.int .i64 (c)) ∧ w'.cell? ⟨w.heap.size + 1 + 1 + 1, 0, none⟩ = some (.int .i64 (x)) ∧ w'.cell? ⟨w.heap.size + 1 + 1 + 1, 1, none⟩ = some (.int .i64 (Q + T * x)) ∧ w'.cell? ⟨w.heap.size + 1 + 1 + 1, 2, none⟩ = some (.int .i64 (y)) ∧ w'.cell? ⟨w.heap.size + 1 + 1 + 1, 3, none⟩ = some (.int .i64 (S + T * y))) (first | (go_keep; done) | (go_simp; done)) ((go_at_call 158; (with_reducible refine (s_any2.out _).mono ?_); rintro e h2 ⟨rfl, hb2⟩; have hcc := (calm_cells hb2).1; have hff := (calm_cells hb2).2; have hsz2 := hb2.size; (try simp at hsz2); have g2_0 := fun o => hcc (w.heap.size) o (by first | omega | (simp <;> omega)); have g2_1 := fun o => hff (w.heap.size) o (by first | omega | (simp <;> omega)); have g2_2 := fun o => hcc (w.heap.size + 1 + 1 + 1) o (by first | omega | (simp <;> omega)); have g2_3 := fun o => hff (w.heap.size + 1 + 1 + 1) o (by first | omega | (simp <;> omega)); have g2_4 := fun o => hcc (w.heap.size + 1) o (by first | omega | (simp <;> omega)); have g2_5 := fun o => hff (w.heap.size + 1) o (by first | omega | (simp <;> omega)); have g2_6 := fun o => hcc (w.heap.size + 1 + 1) o (by first | omega | (simp <;> omega)); have g2_7 := fun o => hff (w.heap.size + 1 + 1) o (by first | omega | (simp <;> omega)); clear hcc hff))
    go_wp2
    exact bodyPost_ret (v := .tuple #[.agg #[.int .i64 E, .int .i64 P2, .int .i64 R2], .agg #[.int .i64 x, .int .i64 (Q + T * x), .int .i64 y, .int .i64 (S + T * y)]]) (by simp [results, Try.results202, go_sem, *]) rfl ⟨rfl, (by repeat (first | with_reducible exact Below.refl _ _ | with_reducible assumption | with_reducible apply Below.drew | with_reducible apply below_drewN | (with_reducible apply below_setp; (first | omega | (simp <;> omega))) | (with_reducible apply below_allocp; (first | omega | (simp <;> omega))) | (with_reducible refine below_viap (by assumption) ?_ ?_; (first | omega | (simp <;> omega)))))⟩
end Go.Proofs.Ytkpiiicefmkhcaa
