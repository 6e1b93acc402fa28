/- Contracts: a point is completed to a matrix. -/
import Derived.Test.YtifkmjmhhklkjaaU1
import Derived.Deep.RegionHeld3
namespace Go.Proofs.Ytifkmjmhhklkjaa
open Go.RowKit

/-- The data of a completed point. -/
structure CoD (a b c x y S Q T : Int) : Prop where
  ha : -100 ≤ a ∧ a ≤ 100
  hb : -100 ≤ b ∧ b ≤ 100
  hc : -1100 ≤ c ∧ c ≤ 1100
  hx : 0 ≤ x ∧ x ≤ 3
  hy : 0 ≤ y ∧ y ≤ 3
  hg : Int.gcd x y = 1
  he : 0 < atF a b c x y
  bez : BezOK x y S (-Q)
  eS : S = bezS x y
  eQ : -Q = bezV x y
  eT : T = -(polF a b c x y Q S / (2 * atF a b c x y))

theorem pol_shift (a b c x y q s T : Int) : polF a b c x y (q + T * x) (s + T * y) = polF a b c x y q s + 2 * T * atF a b c x y := by
  unfold polF atF; grind
theorem at_disc {a b c x y q t : Int} (h : x * t - q * y = 1) : polF a b c x y q t * polF a b c x y q t - disc ⟨a, b, c⟩ = 4 * atF a b c x y * atF a b c q t := by
  have key : polF a b c x y q t * polF a b c x y q t - disc ⟨a, b, c⟩ * ((x * t - q * y) * (x * t - q * y)) = 4 * atF a b c x y * atF a b c q t := by
    simp only [polF, atF, disc]; grind
  rw [h] at key; simpa using key

variable {a b c x y S Q T : Int}
theorem CoD.det (h : CoD a b c x y S Q T) : x * (S + T * y) - (Q + T * x) * y = 1 := by
  have := h.bez.id; grind
theorem CoD.B0 (h : CoD a b c x y S Q T) : -100000 ≤ polF a b c x y Q S ∧ polF a b c x y Q S ≤ 100000 := by
  obtain ⟨a1, a2⟩ := h.ha; obtain ⟨b1, b2⟩ := h.hb; obtain ⟨c1, c2⟩ := h.hc
  obtain ⟨x1, x2⟩ := h.hx; obtain ⟨y1, y2⟩ := h.hy
  obtain ⟨_, s1, s2, v1, v2⟩ := h.bez
  have k1 := mul_bd (a := 2 * a) (x := x) (A := 200) (X := 3) (by omega) (by omega) (by omega) (by omega)
  have k2 := mul_bd (a := 2 * a * x) (x := Q) (A := 600) (X := 10) (by omega) (by omega) (by omega) (by omega)
  have k3 := mul_bd (a := x) (x := S) (A := 3) (X := 10) (by omega) (by omega) (by omega) (by omega)
  have k4 := mul_bd (a := y) (x := Q) (A := 3) (X := 10) (by omega) (by omega) (by omega) (by omega)
  have k5 := mul_bd (a := b) (x := x * S + y * Q) (A := 100) (X := 60) (by omega) (by omega) (by omega) (by omega)
  have k6 := mul_bd (a := 2 * c) (x := y) (A := 2200) (X := 3) (by omega) (by omega) (by omega) (by omega)
  have k7 := mul_bd (a := 2 * c * y) (x := S) (A := 6600) (X := 10) (by omega) (by omega) (by omega) (by omega)
  unfold polF; omega
theorem CoD.e_bd (h : CoD a b c x y S Q T) : atF a b c x y ≤ 20000 := by
  obtain ⟨a1, a2⟩ := h.ha; obtain ⟨b1, b2⟩ := h.hb; obtain ⟨c1, c2⟩ := h.hc
  obtain ⟨x1, x2⟩ := h.hx; obtain ⟨y1, y2⟩ := h.hy
  have k1 := mul_bd (a := a) (x := x) (A := 100) (X := 3) (by omega) (by omega) (by omega) (by omega)
  have k2 := mul_bd (a := a * x) (x := x) (A := 300) (X := 3) (by omega) (by omega) (by omega) (by omega)
  have k3 := mul_bd (a := b) (x := x) (A := 100) (X := 3) (by omega) (by omega) (by omega) (by omega)
  have k4 := mul_bd (a := b * x) (x := y) (A := 300) (X := 3) (by omega) (by omega) (by omega) (by omega)
  have k5 := mul_bd (a := c) (x := y) (A := 1100) (X := 3) (by omega) (by omega) (by omega) (by omega)
  have k6 := mul_bd (a := c * y) (x := y) (A := 3300) (X := 3) (by omega) (by omega) (by omega) (by omega)
  unfold atF; omega
theorem CoD.T_bd (h : CoD a b c x y S Q T) : -100000 ≤ T ∧ T ≤ 100000 := by
  have hB := h.B0
  have he := h.he
  rw [h.eT]
  generalize polF a b c x y Q S = B at *
  generalize atF a b c x y = e at *
  have h1 := Int.emod_add_mul_ediv B (2 * e)
  have h2 := Int.emod_nonneg B (show 2 * e ≠ 0 by omega)
  have h3 := Int.emod_lt_of_pos B (show 0 < 2 * e by omega)
  have h4 := Int.natAbs_ediv_le_natAbs B (2 * e)
  omega
/-- The middle coefficient. -/
theorem CoD.hbm (h : CoD a b c x y S Q T) : polF a b c x y (Q + T * x) (S + T * y) = polF a b c x y Q S % (2 * atF a b c x y) := by
  rw [pol_shift, h.eT]
  have h1 := Int.emod_add_mul_ediv (polF a b c x y Q S) (2 * atF a b c x y)
  generalize polF a b c x y Q S / (2 * atF a b c x y) = z at *
  have e : 2 * -z * atF a b c x y = -(2 * atF a b c x y * z) := by grind
  omega
theorem CoD.hb0 (h : CoD a b c x y S Q T) : 0 ≤ polF a b c x y (Q + T * x) (S + T * y) ∧ polF a b c x y (Q + T * x) (S + T * y) < 2 * atF a b c x y := by
  have he := h.he
  rw [h.hbm]
  exact ⟨Int.emod_nonneg _ (by omega), Int.emod_lt_of_pos _ (by omega)⟩
theorem CoD.qt (h : CoD a b c x y S Q T) : (-400000 ≤ Q + T * x ∧ Q + T * x ≤ 400000) ∧ (-400000 ≤ S + T * y ∧ S + T * y ≤ 400000) ∧ (-300000 ≤ T * x ∧ T * x ≤ 300000) ∧ (-300000 ≤ T * y ∧ T * y ≤ 300000) := by
  have hT := h.T_bd
  obtain ⟨x1, x2⟩ := h.hx; obtain ⟨y1, y2⟩ := h.hy
  obtain ⟨_, s1, s2, v1, v2⟩ := h.bez
  have k1 := mul_bd (a := T) (x := x) (A := 100000) (X := 3) (by omega) (by omega) (by omega) (by omega)
  have k2 := mul_bd (a := T) (x := y) (A := 100000) (X := 3) (by omega) (by omega) (by omega) (by omega)
  omega
theorem at_wide {u v : Int} (ha : -100 ≤ a ∧ a ≤ 100) (hb : -100 ≤ b ∧ b ≤ 100) (hc : -1100 ≤ c ∧ c ≤ 1100) (hu : -400000 ≤ u ∧ u ≤ 400000) (hv : -400000 ≤ v ∧ v ≤ 400000) : AtOK a b c u v := by
  have k1 := mul_bd (a := a) (x := u) (A := 100) (X := 400000) (by omega) (by omega) (by omega) (by omega)
  have k2 := mul_bd (a := a * u) (x := u) (A := 40000000) (X := 400000) (by omega) (by omega) (by omega) (by omega)
  have k3 := mul_bd (a := b) (x := u) (A := 100) (X := 400000) (by omega) (by omega) (by omega) (by omega)
  have k4 := mul_bd (a := b * u) (x := v) (A := 40000000) (X := 400000) (by omega) (by omega) (by omega) (by omega)
  have k5 := mul_bd (a := c) (x := v) (A := 1100) (X := 400000) (by omega) (by omega) (by omega) (by omega)
  have k6 := mul_bd (a := c * v) (x := v) (A := 440000000) (X := 400000) (by omega) (by omega) (by omega) (by omega)
  exact ⟨⟨by omega, by omega⟩, ⟨by omega, by omega⟩, ⟨by omega, by omega⟩, ⟨by omega, by omega⟩, ⟨by omega, by omega⟩, ⟨by omega, by omega⟩⟩
theorem pol_wide {x y u v : Int} (ha : -100 ≤ a ∧ a ≤ 100) (hb : -100 ≤ b ∧ b ≤ 100) (hc : -1100 ≤ c ∧ c ≤ 1100) (hx : 0 ≤ x ∧ x ≤ 3) (hy : 0 ≤ y ∧ y ≤ 3) (hu : -400000 ≤ u ∧ u ≤ 400000) (hv : -400000 ≤ v ∧ v ≤ 400000) : PolOK a b c x y u v := by
  have k1 := mul_bd (a := 2 * a) (x := x) (A := 200) (X := 3) (by omega) (by omega) (by omega) (by omega)
  have k2 := mul_bd (a := 2 * a * x) (x := u) (A := 600) (X := 400000) (by omega) (by omega) (by omega) (by omega)
  have k3 := mul_bd (a := x) (x := v) (A := 3) (X := 400000) (by omega) (by omega) (by omega) (by omega)
  have k4 := mul_bd (a := y) (x := u) (A := 3) (X := 400000) (by omega) (by omega) (by omega) (by omega)
  have k5 := mul_bd (a := b) (x := x * v + y * u) (A := 100) (X := 2400000) (by omega) (by omega) (by omega) (by omega)
  have k6 := mul_bd (a := 2 * c) (x := y) (A := 2200) (X := 3) (by omega) (by omega) (by omega) (by omega)
  have k7 := mul_bd (a := 2 * c * y) (x := v) (A := 6600) (X := 400000) (by omega) (by omega) (by omega) (by omega)
  exact ⟨⟨by omega, by omega⟩, ⟨by omega, by omega⟩, ⟨by omega, by omega⟩, ⟨by omega, by omega⟩, ⟨by omega, by omega⟩, ⟨by omega, by omega⟩, ⟨by omega, by omega⟩, ⟨by omega, by omega⟩, ⟨by omega, by omega⟩⟩

set_option maxRecDepth 100000 in
set_option maxHeartbeats 1600000 in
theorem complete_any (a b c x y S Q T : Int) (w : World) (h : CoD a b c x y S Q T) :
    Calls Try.prog 159 #[.agg #[.int .i64 a, .int .i64 b, .int .i64 c], .int .i64 x, .int .i64 y] w fun e w' =>
      e = .returned (.tuple #[.agg #[.int .i64 (atF a b c x y), .int .i64 (polF a b c x y (Q + T * x) (S + T * y)), .int .i64 (atF a b c (Q + T * x) (S + T * y))], .agg #[.int .i64 x, .int .i64 (Q + T * x), .int .i64 y, .int .i64 (S + T * y)]]) ∧ Below w.heap.size w w' := by
  obtain ⟨⟨q1, q2⟩, ⟨t1, t2⟩, ⟨m1, m2⟩, ⟨n1, n2⟩⟩ := h.qt
  have hB := h.B0
  have heb := h.e_bd
  have he := h.he
  obtain ⟨T1, T2⟩ := h.T_bd
  obtain ⟨x0, x3⟩ := h.hx; obtain ⟨y0, y3⟩ := h.hy
  obtain ⟨bid, s1, s2, v1, v2⟩ := h.bez
  have f1 := at_wide h.ha h.hb h.hc (u := x) (v := y) (by omega) (by omega)
  have f2 := pol_wide h.ha h.hb h.hc h.hx h.hy (u := Q) (v := S) (by omega) (by omega)
  have f3 := at_wide h.ha h.hb h.hc (u := Q) (v := S) (by omega) (by omega)
  have f4 := pol_wide h.ha h.hb h.hc h.hx h.hy (u := Q + T * x) (v := S + T * y) (by omega) (by omega)
  have f5 := at_wide h.ha h.hb h.hc (u := Q + T * x) (v := S + T * y) (by omega) (by omega)
  have f1' := f1
  have hT := h.eT
  have hfl : ∀ w, Calls Try.prog 146 #[.int .i64 (polF a b c x y Q S), .int .i64 (2 * atF a b c x y)] w fun e w' => e = .returned (.int .i64 (-T)) ∧ w = w' := by
    intro w
    have := floorDiv_any (polF a b c x y Q S) (2 * atF a b c x y) w (by omega) (by omega) (by omega) (by omega)
    rw [hT, Int.neg_neg]; exact this
  have Hfl := Lib.hid hfl
  have s_any := Lib.hid (substitute_any a b c x Q y S)
  have s_any2 := Lib.hid (substitute_any a b c x (Q + T * x) y (S + T * y))
  have hb1 : -100000 ≤ polF a b c x y Q S := hB.1
  have hb2 : polF a b c x y Q S ≤ 100000 := hB.2
  generalize hE : atF a b c x y = E at *
  generalize hP : polF a b c x y Q S = P at *
  generalize hR : atF a b c Q S = R at *
  generalize hP2 : polF a b c x y (Q + T * x) (S + T * y) = P2 at *
  generalize hR2 : atF a b c (Q + T * x) (S + T * y) = R2 at *
  clear hE hP hR hP2 hR2
  by_cases h0 : y = 0
  · have eS := h.eS
    have eQ := h.eQ
    subst h0
    have hx1 : x = 1 := by have := h.hg; simp at this; omega
    subst hx1
    unfold bezS at eS; unfold bezV at eQ
    rw [if_pos rfl] at eS eQ
    obtain rfl : Q = 0 := by omega
    subst eS
    have e1 : 0 + T * 1 = T := by omega
    have e2 : 1 + T * 0 = 1 := by omega
    rw [e1, e2] at s_any2 f4 ⊢
    rw [e1, e2] at f5
    clear h hfl hT hB bid eQ e1 e2 q1 q2 t1 t2
    go_enter Try.func159, Try.ntmps159
    go_wp2_with (first
      | (go_at_call 124; (with_reducible refine (s_any.out _ f1 f2 f3).mono ?_); rintro e v1 ⟨rfl, hB1⟩; have hZ1 := hB1.size; (try simp at hZ1); (try have zl1 : w.heap.size < v1.heap.size := by omega); (try have ze1 : w.heap.size ≤ v1.heap.size := by omega); (try have zn1 : ¬ w.heap.size = v1.heap.size := by omega); (try have zm1 : ¬ v1.heap.size = w.heap.size := by omega); have hA1 : Blk v1 (w.heap.size) 23 #[.int .i64 a, .int .i64 b, .int .i64 c] := Blk.call (by (repeat (first | with_reducible assumption | (with_reducible apply Blk.new_at; (first | rfl | (simp; done))) | with_reducible apply Blk.store3 | with_reducible apply Blk.store4 | (with_reducible apply Blk.farp; (first | omega | (simp <;> omega))) | with_reducible apply Blk.allocp | with_reducible apply Blk.drew | with_reducible apply Blk.drewN))) hB1; have cA1 := hA1.cell; have fA1 := hA1.frozen; have lA1 := hA1.lt; have mA1 := Nat.ne_of_gt lA1; have nA1 := Nat.ne_of_lt lA1; have hR1 : Blk v1 (w.heap.size + 1) 23 #[.int .i64 0, .int .i64 0, .int .i64 0] := Blk.call (by (repeat (first | with_reducible assumption | (with_reducible apply Blk.new_at; (first | rfl | (simp; done))) | with_reducible apply Blk.store3 | with_reducible apply Blk.store4 | (with_reducible apply Blk.farp; (first | omega | (simp <;> omega))) | with_reducible apply Blk.allocp | with_reducible apply Blk.drew | with_reducible apply Blk.drewN))) hB1; have cR1 := hR1.cell; have fR1 := hR1.frozen; have lR1 := hR1.lt; have mR1 := Nat.ne_of_gt lR1; have nR1 := Nat.ne_of_lt lR1; have hX1 : Blk v1 (w.heap.size + 1 + 1) 88 #[.int .i64 0, .int .i64 0, .int .i64 0, .int .i64 0] := Blk.call (by (repeat (first | with_reducible assumption | (with_reducible apply Blk.new_at; (first | rfl | (simp; done))) | with_reducible apply Blk.store3 | with_reducible apply Blk.store4 | (with_reducible apply Blk.farp; (first | omega | (simp <;> omega))) | with_reducible apply Blk.allocp | with_reducible apply Blk.drew | with_reducible apply Blk.drewN))) hB1; have cX1 := hX1.cell; have fX1 := hX1.frozen; have lX1 := hX1.lt; have mX1 := Nat.ne_of_gt lX1; have nX1 := Nat.ne_of_lt lX1; have hM1 : Blk v1 (w.heap.size + 1 + 1 + 1) 88 #[.int .i64 1, .int .i64 0, .int .i64 0, .int .i64 1] := Blk.call (by (repeat (first | with_reducible assumption | (with_reducible apply Blk.new_at; (first | rfl | (simp; done))) | with_reducible apply Blk.store3 | with_reducible apply Blk.store4 | (with_reducible apply Blk.farp; (first | omega | (simp <;> omega))) | with_reducible apply Blk.allocp | with_reducible apply Blk.drew | with_reducible apply Blk.drewN))) hB1; have cM1 := hM1.cell; have fM1 := hM1.frozen; have lM1 := hM1.lt; have mM1 := Nat.ne_of_gt lM1; have nM1 := Nat.ne_of_lt lM1)
      | (go_at_call 146; (with_reducible refine (Hfl.out _).mono ?_); rintro e v ⟨rfl, rfl⟩))
    clear s_any Hfl hA1 hR1 hX1 hM1 f1 f2 f3
    have k2 : ¬ w.heap.size = w.heap.size + 1 + 1 := by omega
    have k3 : ¬ w.heap.size + 1 + 1 = w.heap.size := by omega
    have k4 : ¬ w.heap.size + 1 + 1 + 1 = w.heap.size + 1 := by omega
    have k5 : ¬ w.heap.size + 1 = w.heap.size + 1 + 1 + 1 := by omega
    have k6 : ¬ w.heap.size = w.heap.size + 1 + 1 + 1 := by omega
    have k7 : ¬ w.heap.size + 1 + 1 + 1 = w.heap.size := by omega
    go_region_held3 (fun w' => w'.cell? ⟨w.heap.size, 0, none⟩ = some (.int .i64 (a)) ∧ w'.cell? ⟨w.heap.size, 1, none⟩ = some (.int .i64 (b)) ∧ w'.cell? ⟨w.heap.size, 2, none⟩ = some (.int .i64 (c)) ∧ w'.cell? ⟨w.heap.size + 1 + 1 + 1, 0, none⟩ = some (.int .i64 (1)) ∧ w'.cell? ⟨w.heap.size + 1 + 1 + 1, 1, none⟩ = some (.int .i64 (T)) ∧ w'.cell? ⟨w.heap.size + 1 + 1 + 1, 2, none⟩ = some (.int .i64 (0)) ∧ w'.cell? ⟨w.heap.size + 1 + 1 + 1, 3, none⟩ = some (.int .i64 (1))) (first | (go_keep; done) | (go_simp; done)) ((go_at_call 124; (with_reducible refine (s_any2.out _ f1' f4 f5).mono ?_); rintro e h2 ⟨rfl, hb2⟩; have hcc := (calm_cells hb2).1; have hff := (calm_cells hb2).2; have hsz2 := hb2.size; (try simp at hsz2); have g2_0 := fun o => hcc (w.heap.size) o (by first | omega | (simp <;> omega)); have g2_1 := fun o => hff (w.heap.size) o (by first | omega | (simp <;> omega)); have g2_2 := fun o => hcc (w.heap.size + 1 + 1 + 1) o (by first | omega | (simp <;> omega)); have g2_3 := fun o => hff (w.heap.size + 1 + 1 + 1) o (by first | omega | (simp <;> omega)); have g2_4 := fun o => hcc (w.heap.size + 1) o (by first | omega | (simp <;> omega)); have g2_5 := fun o => hff (w.heap.size + 1) o (by first | omega | (simp <;> omega)); have g2_6 := fun o => hcc (w.heap.size + 1 + 1) o (by first | omega | (simp <;> omega)); have g2_7 := fun o => hff (w.heap.size + 1 + 1) o (by first | omega | (simp <;> omega)); clear hcc hff))
    go_wp2
    exact bodyPost_ret (v := .tuple #[.agg #[.int .i64 E, .int .i64 P2, .int .i64 R2], .agg #[.int .i64 1, .int .i64 T, .int .i64 0, .int .i64 1]]) (by simp [results, Try.results159, go_sem, *]) rfl ⟨rfl, (by repeat (first | with_reducible exact Below.refl _ _ | with_reducible assumption | with_reducible apply Below.drew | with_reducible apply below_drewN | (with_reducible apply below_setp; (first | omega | (simp <;> omega))) | (with_reducible apply below_allocp; (first | omega | (simp <;> omega))) | (with_reducible refine below_viap (by assumption) ?_ ?_; (first | omega | (simp <;> omega)))))⟩
  · have eS := h.eS
    have eQ := h.eQ
    unfold bezS at eS; unfold bezV at eQ
    rw [if_neg h0] at eS eQ
    have hc := fun w => inverse_c x y w (by omega) (by omega) h.hg
    rw [← eS] at hc
    have Hc := Lib.hid hc
    have b1 : 0 ≤ x * S := Int.mul_nonneg x0 s1
    have b2 : x * S ≤ 3 * 10 := Int.mul_le_mul x3 (by omega) s1 (by omega)
    have e0 : (x * S - 1).tdiv y = Q := by
      have e9 : x * S - 1 = y * Q := by have := Int.mul_neg y Q; omega
      rw [e9, Int.mul_tdiv_cancel_left _ h0]
    have ey : ((y.natAbs : Nat) : Int) = y := by omega
    have e1 : (y == 0) = false := by rw [beq_eq_false_iff_ne]; exact h0
    have g1 : E ≤ 20000 := heb
    clear h hfl hT hB bid eS eQ hc
    go_enter Try.func159, Try.ntmps159
    go_wp2_with (first
      | (go_at_call 120; (with_reducible refine (abs_any y _ (by omega) (by omega)).mono ?_); rintro e v ⟨rfl, rfl⟩)
      | (go_at_call 167; (with_reducible refine (Hc.out _).mono ?_); rintro e v ⟨rfl, rfl⟩)
      | (go_at_call 124; (with_reducible refine (s_any.out _ f1 f2 f3).mono ?_); rintro e v1 ⟨rfl, hB1⟩; have hZ1 := hB1.size; (try simp at hZ1); (try have zl1 : w.heap.size < v1.heap.size := by omega); (try have ze1 : w.heap.size ≤ v1.heap.size := by omega); (try have zn1 : ¬ w.heap.size = v1.heap.size := by omega); (try have zm1 : ¬ v1.heap.size = w.heap.size := by omega); have hA1 : Blk v1 (w.heap.size) 23 #[.int .i64 a, .int .i64 b, .int .i64 c] := Blk.call (by (repeat (first | with_reducible assumption | (with_reducible apply Blk.new_at; (first | rfl | (simp; done))) | with_reducible apply Blk.store3 | with_reducible apply Blk.store4 | (with_reducible apply Blk.farp; (first | omega | (simp <;> omega))) | with_reducible apply Blk.allocp | with_reducible apply Blk.drew | with_reducible apply Blk.drewN))) hB1; have cA1 := hA1.cell; have fA1 := hA1.frozen; have lA1 := hA1.lt; have mA1 := Nat.ne_of_gt lA1; have nA1 := Nat.ne_of_lt lA1; have hR1 : Blk v1 (w.heap.size + 1) 23 #[.int .i64 0, .int .i64 0, .int .i64 0] := Blk.call (by (repeat (first | with_reducible assumption | (with_reducible apply Blk.new_at; (first | rfl | (simp; done))) | with_reducible apply Blk.store3 | with_reducible apply Blk.store4 | (with_reducible apply Blk.farp; (first | omega | (simp <;> omega))) | with_reducible apply Blk.allocp | with_reducible apply Blk.drew | with_reducible apply Blk.drewN))) hB1; have cR1 := hR1.cell; have fR1 := hR1.frozen; have lR1 := hR1.lt; have mR1 := Nat.ne_of_gt lR1; have nR1 := Nat.ne_of_lt lR1; have hX1 : Blk v1 (w.heap.size + 1 + 1) 88 #[.int .i64 0, .int .i64 0, .int .i64 0, .int .i64 0] := Blk.call (by (repeat (first | with_reducible assumption | (with_reducible apply Blk.new_at; (first | rfl | (simp; done))) | with_reducible apply Blk.store3 | with_reducible apply Blk.store4 | (with_reducible apply Blk.farp; (first | omega | (simp <;> omega))) | with_reducible apply Blk.allocp | with_reducible apply Blk.drew | with_reducible apply Blk.drewN))) hB1; have cX1 := hX1.cell; have fX1 := hX1.frozen; have lX1 := hX1.lt; have mX1 := Nat.ne_of_gt lX1; have nX1 := Nat.ne_of_lt lX1; have hM1 : Blk v1 (w.heap.size + 1 + 1 + 1) 88 #[.int .i64 x, .int .i64 Q, .int .i64 y, .int .i64 S] := Blk.call (by (repeat (first | with_reducible assumption | (with_reducible apply Blk.new_at; (first | rfl | (simp; done))) | with_reducible apply Blk.store3 | with_reducible apply Blk.store4 | (with_reducible apply Blk.farp; (first | omega | (simp <;> omega))) | with_reducible apply Blk.allocp | with_reducible apply Blk.drew | with_reducible apply Blk.drewN))) hB1; have cM1 := hM1.cell; have fM1 := hM1.frozen; have lM1 := hM1.lt; have mM1 := Nat.ne_of_gt lM1; have nM1 := Nat.ne_of_lt lM1)
      | (go_at_call 146; (with_reducible refine (Hfl.out _).mono ?_); rintro e v ⟨rfl, rfl⟩))
    clear s_any Hfl hA1 hR1 hX1 hM1 f1 f2 f3
    have k2 : ¬ w.heap.size = w.heap.size + 1 + 1 := by omega
    have k3 : ¬ w.heap.size + 1 + 1 = w.heap.size := by omega
    have k4 : ¬ w.heap.size + 1 + 1 + 1 = w.heap.size + 1 := by omega
    have k5 : ¬ w.heap.size + 1 = w.heap.size + 1 + 1 + 1 := by omega
    have k6 : ¬ w.heap.size = w.heap.size + 1 + 1 + 1 := by omega
    have k7 : ¬ w.heap.size + 1 + 1 + 1 = w.heap.size := by omega
    go_region_held3 (fun w' => w'.cell? ⟨w.heap.size, 0, none⟩ = some (.int .i64 (a)) ∧ w'.cell? ⟨w.heap.size, 1, none⟩ = some (.int .i64 (b)) ∧ w'.cell? ⟨w.heap.size, 2, none⟩ = some (.int .i64 (c)) ∧ w'.cell? ⟨w.heap.size + 1 + 1 + 1, 0, none⟩ = some (.int .i64 (x)) ∧ w'.cell? ⟨w.heap.size + 1 + 1 + 1, 1, none⟩ = some (.int .i64 (Q + T * x)) ∧ w'.cell? ⟨w.heap.size + 1 + 1 + 1, 2, none⟩ = some (.int .i64 (y)) ∧ w'.cell? ⟨w.heap.size + 1 + 1 + 1, 3, none⟩ = some (.int .i64 (S + T * y))) (first | (go_keep; done) | (go_simp; done)) ((go_at_call 124; (with_reducible refine (s_any2.out _ f1' f4 f5).mono ?_); rintro e h2 ⟨rfl, hb2⟩; have hcc := (calm_cells hb2).1; have hff := (calm_cells hb2).2; have hsz2 := hb2.size; (try simp at hsz2); have g2_0 := fun o => hcc (w.heap.size) o (by first | omega | (simp <;> omega)); have g2_1 := fun o => hff (w.heap.size) o (by first | omega | (simp <;> omega)); have g2_2 := fun o => hcc (w.heap.size + 1 + 1 + 1) o (by first | omega | (simp <;> omega)); have g2_3 := fun o => hff (w.heap.size + 1 + 1 + 1) o (by first | omega | (simp <;> omega)); have g2_4 := fun o => hcc (w.heap.size + 1) o (by first | omega | (simp <;> omega)); have g2_5 := fun o => hff (w.heap.size + 1) o (by first | omega | (simp <;> omega)); have g2_6 := fun o => hcc (w.heap.size + 1 + 1) o (by first | omega | (simp <;> omega)); have g2_7 := fun o => hff (w.heap.size + 1 + 1) o (by first | omega | (simp <;> omega)); clear hcc hff))
    go_wp2
    exact bodyPost_ret (v := .tuple #[.agg #[.int .i64 E, .int .i64 P2, .int .i64 R2], .agg #[.int .i64 x, .int .i64 (Q + T * x), .int .i64 y, .int .i64 (S + T * y)]]) (by simp [results, Try.results159, go_sem, *]) rfl ⟨rfl, (by repeat (first | with_reducible exact Below.refl _ _ | with_reducible assumption | with_reducible apply Below.drew | with_reducible apply below_drewN | (with_reducible apply below_setp; (first | omega | (simp <;> omega))) | (with_reducible apply below_allocp; (first | omega | (simp <;> omega))) | (with_reducible refine below_viap (by assumption) ?_ ?_; (first | omega | (simp <;> omega)))))⟩
end Go.Proofs.Ytifkmjmhhklkjaa
