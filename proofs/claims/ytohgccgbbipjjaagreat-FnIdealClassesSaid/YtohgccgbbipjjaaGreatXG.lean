/- Parts ZG ZH ZI laid together by tp.py. -/
import Derived.Test.YtohgccgbbipjjaaGreatXF
namespace Go.Proofs.YtohgccgbbipjjaaGreat
section
open Go.RowKit

/-- The elements that generate the ideal. -/
def Gn (d a b : Int) (p : Int × Int) : Prop := p.1 * p.1 - d * p.2 * p.2 = 4 * a ∧ 2 * a ∣ p.1 + b * p.2
def PVg (G : Int × Int → Prop) (v : Int) (z : Int × Int) : Prop := G z ∧ z.2 < v
def PGg (G : Int × Int → Prop) (v r : Int) (i : Nat) (z : Int × Int) : Prop := G z ∧ (z.2 < v ∨ (z.2 = v ∧ ((1 ≤ i ∧ z.1 = r) ∨ (2 ≤ i ∧ z.1 = -r))))
def sgU (i : Nat) (r : Int) : Int := if i = 0 then r else -r
theorem pg_into (G : Int × Int → Prop) (v r : Int) (z : Int × Int) : PGg G v r 0 z ↔ PVg G v z := by
  unfold PGg PVg
  constructor
  · rintro ⟨h, h2⟩; exact ⟨h, by omega⟩
  · rintro ⟨h, h2⟩; exact ⟨h, .inl h2⟩
theorem pg_take {G : Int × Int → Prop} {v r : Int} {i : Nat} (hi : i < 2) (hG : G (sgU i r, v)) (z : Int × Int) : PGg G v r (i + 1) z ↔ PGg G v r i z ∨ z = (sgU i r, v) := by
  unfold PGg
  obtain ⟨x, y⟩ := z
  constructor
  · rintro ⟨h, h2⟩
    rcases h2 with h2 | ⟨h2, h3⟩
    · exact .inl ⟨h, .inl h2⟩
    · simp only at h2 h3
      by_cases e : x = sgU i r
      · right; rw [h2, e]
      · left
        refine ⟨h, .inr ⟨h2, ?_⟩⟩
        unfold sgU at e
        rcases (show i = 0 ∨ i = 1 by omega) with rfl | rfl
        · simp at e; omega
        · simp at e; omega
  · rintro (⟨h, h2⟩ | h)
    · exact ⟨h, by omega⟩
    · obtain ⟨rfl, rfl⟩ := Prod.mk.inj h
      refine ⟨hG, .inr ⟨rfl, ?_⟩⟩
      unfold sgU
      rcases (show i = 0 ∨ i = 1 by omega) with rfl | rfl
      · left; simp
      · right; simp
theorem pg_skip {G : Int × Int → Prop} {v r : Int} {i : Nat} (hi : i < 2) (hG : ¬ G (sgU i r, v)) (z : Int × Int) : PGg G v r (i + 1) z ↔ PGg G v r i z := by
  unfold PGg
  obtain ⟨x, y⟩ := z
  constructor
  · rintro ⟨h, h2⟩
    refine ⟨h, ?_⟩
    rcases h2 with h2 | ⟨h2, h3⟩
    · exact .inl h2
    · simp only at h2 h3
      right
      refine ⟨h2, ?_⟩
      have e : x ≠ sgU i r := fun e => hG (by rw [← e, ← h2]; exact h)
      unfold sgU at e
      rcases (show i = 0 ∨ i = 1 by omega) with rfl | rfl
      · simp at e; omega
      · simp at e; omega
  · rintro ⟨h, h2⟩
    exact ⟨h, by omega⟩
theorem gn_two {t s : Int} (h : t * t = s * s) : t = s ∨ t = -s := by
  have : (t - s) * (t + s) = 0 := by grind
  rcases Int.mul_eq_zero.1 this with h | h <;> omega
theorem pg_leave {d a b v r : Int} (hr : r * r = 4 * a + d * v * v) (z : Int × Int) : PGg (Gn d a b) v r 2 z ↔ PVg (Gn d a b) (v + 1) z := by
  unfold PGg PVg
  obtain ⟨x, y⟩ := z
  constructor
  · rintro ⟨h, h2⟩
    refine ⟨h, ?_⟩
    simp only at h2 ⊢
    omega
  · rintro ⟨h, h2⟩
    refine ⟨h, ?_⟩
    simp only at h2 ⊢
    by_cases e : y < v
    · exact .inl e
    · have ey : y = v := by omega
      subst ey
      have h1 : x * x = r * r := by have h3 : x * x - d * y * y = 4 * a := h.1; omega
      rcases gn_two h1 with e2 | e2
      · exact .inr ⟨rfl, .inl ⟨by omega, e2⟩⟩
      · exact .inr ⟨rfl, .inr ⟨by omega, e2⟩⟩
theorem pv_skip {d a b v : Int} (hr : ∀ t : Int, t * t ≠ 4 * a + d * v * v) (z : Int × Int) : PVg (Gn d a b) (v + 1) z ↔ PVg (Gn d a b) v z := by
  unfold PVg
  obtain ⟨x, y⟩ := z
  constructor
  · rintro ⟨h, h2⟩
    refine ⟨h, ?_⟩
    simp only at h2 ⊢
    by_cases e : y < v
    · exact e
    · exfalso
      have ey : y = v := by omega
      subst ey
      have h3 : x * x - d * y * y = 4 * a := h.1
      exact hr x (by omega)
  · rintro ⟨h, h2⟩
    simp only at h2
    exact ⟨h, by simp only; omega⟩
/-- The second coordinate of an element. -/
theorem gn_bd {d a b r : Int} (hd : d < 0) (_ : 0 < a) (h0 : 0 ≤ r) (hr : (4 * a) / (-d) < (r + 1) * (r + 1)) {p : Int × Int} (hp : Gn d a b p) : -r ≤ p.2 ∧ p.2 ≤ r := by
  have h1 := hp.1
  have hx : 0 ≤ p.1 * p.1 := by rcases Int.le_total 0 p.1 with h | h; exact Int.mul_nonneg h h; exact Int.mul_nonneg_of_nonpos_of_nonpos h h
  have e1 : d * p.2 * p.2 = d * (p.2 * p.2) := Int.mul_assoc _ _ _
  rw [e1] at h1
  have h2 : (-d) * (p.2 * p.2) ≤ 4 * a := by rw [Int.neg_mul]; omega
  have h3 : p.2 * p.2 ≤ (4 * a) / (-d) := (Int.le_ediv_iff_mul_le (by omega)).2 (by rw [Int.mul_comm]; exact h2)
  have key : ∀ t : Int, t * t < (r + 1) * (r + 1) → t ≤ r := fun t ht => by
    apply Int.not_lt.1
    intro hl
    have := Int.mul_le_mul (show r + 1 ≤ t by omega) (show r + 1 ≤ t by omega) (by omega) (by omega)
    omega
  have k1 := key p.2 (by omega)
  have k2 := key (-p.2) (by rw [Int.neg_mul_neg]; omega)
  omega
theorem bestI_uniq {P : Int × Int → Prop} {f f' : Bool} {p q : Int × Int} (h : BestI P f p) (k : BestI P f' q) (hp : f = false → p = (0, 0)) (hq : f' = false → q = (0, 0)) : f = f' ∧ p = q := by
  cases f with
  | false =>
    cases f' with
    | false => exact ⟨rfl, by rw [hp rfl, hq rfl]⟩
    | true => exact absurd (k.2 rfl).1 (h.1 rfl q)
  | true =>
    cases f' with
    | false => exact absurd (h.2 rfl).1 (k.1 rfl p)
    | true => exact ⟨rfl, maxG_uniq (h.2 rfl) (k.2 rfl)⟩
/-- Three values that are not all as asked. -/
theorem tri_cases {e A R a b : Int} (h : ¬ (e = 1 ∧ A = a ∧ R = b)) : e ≠ 1 ∨ (e = 1 ∧ A ≠ a) ∨ (e = 1 ∧ A = a ∧ R ≠ b) := by omega
end

section
open Go.RowKit

/-- The greatest element of P, times e, and whether there is one. -/
def RetGo (P : Int × Int → Prop) (e : Int) (w : World) (x : Ending) (w' : World) : Prop := ∃ (f : Bool) (q : Int × Int), x = .returned (.tuple #[.int .i64 (e * q.1), .int .i64 (e * q.2), .bool f]) ∧ BestI P f q ∧ (f = false → q = (0, 0)) ∧ ((-1000 ≤ q.1 ∧ q.1 ≤ 1000) ∧ (-1000 ≤ q.2 ∧ q.2 ≤ 1000)) ∧ Below w.heap.size w w'
theorem IdV.par {d e a b : Int} (h : IdV d e a b) : ∃ k : Int, b + d % 2 = 2 * k := by
  obtain ⟨c, hc, _⟩ := h.form
  have e1 : b * b % 2 = b % 2 := by rw [Int.mul_emod]; rcases Int.emod_two_eq b with h | h <;> rw [h] <;> rfl
  have e2 : (b * b - d) % 2 = 0 := by rw [hc, Int.mul_assoc]; omega
  exact ⟨(b + d % 2) / 2, by omega⟩
/-- The test of the search. -/
theorem gen_test {d e a b u v : Int} (V : IdV d e a b) (hE : ElV d u v a) : ∃ e1 A1 R1 : Int, ((e1 = 1 ∧ A1 = a ∧ R1 = b) ↔ 2 * a ∣ u + b * v) ∧ ∀ w, Calls Tryz.prog 48 #[.int .i64 d, .int .i64 u, .int .i64 v] w fun x w' => x = .returned (.agg #[.int .i64 e1, .int .i64 A1, .int .i64 R1]) ∧ Below w.heap.size w w' := by
  obtain ⟨e1, A1, t1, he, hA, heA, ⟨X, Y, m, hm, hX, hY, hsp⟩, hw⟩ := principal_any d u v a hE
  obtain ⟨c, hc, _⟩ := V.form
  obtain ⟨k, hk⟩ := V.par
  refine ⟨e1, A1, (-t1) % (2 * A1), ?_, hw⟩
  exact prn_iff (m := m) (s := d % 2) (by rw [← hm]; exact hX) hY (by have := V.a1; omega) he heA (by rw [← hm]; exact hc) hk ⟨V.b0, V.b2⟩ hsp
theorem rt_bd {n r : Int} (hn : 0 ≤ n) (h : n ≤ 40000) (hr : rt n = r) : 0 ≤ r ∧ r ≤ 200 ∧ r * r ≤ n ∧ n < (r + 1) * (r + 1) := by
  obtain ⟨h1, h2, h3⟩ := rt_spec hn
  rw [hr] at h1 h2 h3
  refine ⟨h1, ?_, h2, h3⟩
  apply Int.not_lt.1
  intro hl
  have := Int.mul_le_mul (show (201 : Int) ≤ r by omega) (show (201 : Int) ≤ r by omega) (by omega) (by omega)
  omega
theorem sqnG (x : Int) : 0 ≤ x * x := by
  rcases Int.le_total 0 x with h | h
  · exact Int.mul_nonneg h h
  · exact Int.mul_nonneg_of_nonpos_of_nonpos h h
theorem sqB_no {n : Int} (h : sqB n = false) (t : Int) : t * t ≠ n := by
  intro ht
  have hn : 0 ≤ n := by rw [← ht]; exact sqnG t
  unfold sqB at h
  rw [decide_eq_true hn, Bool.true_and, decide_eq_false_iff_not] at h
  apply h
  rcases Int.le_total 0 t with h0 | h0
  · rw [rt_uniq h0 ht]; exact ht
  · rw [rt_uniq (show 0 ≤ -t by omega) (by rw [Int.neg_mul_neg]; exact ht), Int.neg_mul_neg]; exact ht
theorem sqB_yes {n : Int} (h : sqB n = true) : rt n * rt n = n := by
  unfold sqB at h
  simp only [Bool.and_eq_true, decide_eq_true_eq] at h
  exact h.2
set_option maxHeartbeats 1600000 in
theorem implGO_no (d e a b : Int) (w : World) (h : (piB d && idB d e a b) = false) : Calls Tryz.prog 16 #[.int .i64 d, .agg #[.int .i64 e, .int .i64 a, .int .i64 b]] w fun x w' => x = .returned (.tuple #[.int .i64 0, .int .i64 0, .bool false]) ∧ Below w.heap.size w w' := by
  have hW := Lib.hid (fun w => isWhole_any d e a b w)
  rw [h] at hW
  clear h
  go_enter Tryz.func16, Tryz.ntmps16
  go_wp2_with (go_at_call 26; (with_reducible refine (hW.out _).mono ?_); rintro e v1 ⟨rfl, hB1⟩; have hZ1 := hB1.size; (try simp at hZ1); (try have zl1 : w.heap.size < v1.heap.size := by omega); (try have ze1 : w.heap.size ≤ v1.heap.size := by omega); (try have zn1 : ¬ w.heap.size = v1.heap.size := by omega); (try have zm1 : ¬ v1.heap.size = w.heap.size := by omega); have hX1 : Blk v1 (w.heap.size) 25 #[.int .i64 e, .int .i64 a, .int .i64 b] := Blk.call (by (repeat (first | with_reducible assumption | (with_reducible apply Blk.new_at; (first | rfl | (simp; done))) | with_reducible apply Blk.store3 | with_reducible apply Blk.store4 | (with_reducible apply Blk.farp; (first | omega | (simp <;> omega))) | with_reducible apply Blk.allocp | with_reducible apply Blk.drew | with_reducible apply Blk.drewN))) hB1; have cX1 := hX1.cell; have fX1 := hX1.frozen; have lX1 := hX1.lt; have mX1 := Nat.ne_of_gt lX1; have nX1 := Nat.ne_of_lt lX1)
  go_ret3
  exact ⟨rfl, (by repeat (first | with_reducible exact Below.refl _ _ | with_reducible assumption | with_reducible apply Below.drew | with_reducible apply below_drewN | (with_reducible apply below_setp; (first | omega | (simp <;> omega))) | (with_reducible apply below_allocp; (first | omega | (simp <;> omega))) | (with_reducible refine below_viap (by assumption) ?_ ?_; (first | omega | (simp <;> omega)))))⟩
/-- The state of the search. -/
def GoSt (P : Int × Int → Prop) (bb : Nat) (W : World) (vf : Value) (wr : World) : Prop := ∃ (f : Bool) (q : Int × Int), vf = .bool f ∧ Hid (BestI P f q) ∧ Hid (f = false → q = (0, 0)) ∧ Hid ((-1000 ≤ q.1 ∧ q.1 ≤ 1000) ∧ (-1000 ≤ q.2 ∧ q.2 ≤ 1000)) ∧ Blk wr bb 73 #[.int .i64 q.1, .int .i64 q.2] ∧ Below bb W wr
set_option maxRecDepth 100000 in
set_option maxHeartbeats 12800000 in
theorem implGO_any (d e a b : Int) (w : World) (hp : piB d = true) (V : IdV d e a b) : Calls Tryz.prog 16 #[.int .i64 d, .agg #[.int .i64 e, .int .i64 a, .int .i64 b]] w (RetGo (Gn d a b) e w) := by
  have hW := Lib.hid (fun w => isWhole_any d e a b w)
  rw [hp, idB_iff.2 V] at hW
  obtain ⟨⟨d1, d2⟩, d4⟩ := piB_d hp
  have a1 := V.a1; have a2 := V.a2
  have e1 := V.e1; have e2 := V.e2
  obtain ⟨Q, hQ⟩ : ∃ Q : Int, (4 * a) / (-d) = Q := ⟨_, rfl⟩
  have hQ0 : 0 ≤ Q := by rw [← hQ]; exact Int.ediv_nonneg (by omega) (by omega)
  have hQ1 : Q ≤ 4 * a := by rw [← hQ]; exact Int.ediv_le_self _ (by omega)
  have hQd : (4 * a).tdiv (-d) = Q := by rw [Int.tdiv_eq_ediv_of_nonneg (by omega), hQ]
  obtain ⟨r0, hr0⟩ : ∃ r, rt Q = r := ⟨_, rfl⟩
  obtain ⟨b0, b1, b2, b3⟩ := rt_bd hQ0 (by omega) hr0
  have hRt := Lib.hid (fun w => root_any Q w hQ0 (by omega))
  rw [hr0] at hRt
  have HB := Lib.hid (fun p (hp : Gn d a b p) => gn_bd (r := r0) (by omega) (by omega) b0 (by rw [hQ]; exact b3) hp)
  have HSq : Hid (∀ v : Int, -r0 ≤ v → v ≤ r0 → 0 ≤ 4 * a + d * v * v ∧ 4 * a + d * v * v ≤ 40000 ∧ (-6000000 ≤ d * v ∧ d * v ≤ 6000000) ∧ (-40000 ≤ d * v * v ∧ d * v * v ≤ 0)) := Lib.hid (fun v h1 h2 => by
    have k1 : v * v ≤ Q := by
      have : v * v ≤ r0 * r0 := by
        rcases Int.le_total 0 v with h | h
        · exact Int.mul_le_mul h2 h2 h (by omega)
        · have := Int.mul_le_mul (show -v ≤ r0 by omega) (show -v ≤ r0 by omega) (by omega) (by omega)
          rw [Int.neg_mul_neg] at this; exact this
      omega
    have k2 : v * v * (-d) ≤ 4 * a := (Int.le_ediv_iff_mul_le (by omega)).1 (by rw [hQ]; exact k1)
    have k0 := sqnG v
    have k3 : 0 ≤ v * v * (-d) := Int.mul_nonneg k0 (by omega)
    have k4 : d * v * v = -(v * v * (-d)) := by rw [Int.mul_neg, Int.neg_neg, Int.mul_assoc, Int.mul_comm]
    have k5 := mul_bd (a := d) (x := v) (A := 2000) (X := 200) (by omega) (by omega) (by omega) (by omega)
    omega)
  have HEl : Hid (∀ u v : Int, u * u = 4 * a + d * v * v → (-1000 ≤ u ∧ u ≤ 1000) → (-1000 ≤ v ∧ v ≤ 1000) → ElV d u v a) := Lib.hid (fun u v h1 h2 h3 => ⟨d1, d2, d4, by omega, by omega, by omega, by omega, by omega⟩)
  have HT := Lib.hid (fun u v (hE : ElV d u v a) => gen_test V hE)
  have HD := Lib.hid (show -2000 ≤ d ∧ d ≤ -3 from ⟨d1, d2⟩)
  have HA := Lib.hid (show (1 ≤ a ∧ a ≤ 10000) ∧ (1 ≤ e ∧ e ≤ 10000) from ⟨⟨a1, a2⟩, e1, e2⟩)
  have dz : ¬ -d = 0 := by omega
  have dz2 : (-d == 0) = false := beq_eq_false_iff_ne.2 dz
  have dw : wrap64 (-d) = -d := IntWalk.wrap64_in _ (by omega)
  have aw : wrap64 (4 * a) = 4 * a := IntWalk.wrap64_in _ (by omega)
  have Qw : wrap64 Q = Q := IntWalk.wrap64_in _ (by omega)
  have HRw := Lib.hid (show wrap64 (-r0) = -r0 from IntWalk.wrap64_in _ (by omega))
  have HR0 := Lib.hid (show 0 ≤ r0 ∧ r0 ≤ 200 from ⟨b0, b1⟩)
  clear hp V d4 hQ hQ0 hQ1 hr0 b2 b3 d1 d2 a1 a2 e1 e2 b0 b1
  obtain ⟨G, hG⟩ : ∃ G, Gn d a b = G := ⟨_, rfl⟩
  have HGn := Lib.hid hG
  rw [hG]
  clear hG
  go_enter Tryz.func16, Tryz.ntmps16
  go_wp2_with (first | (go_at_call 26; (with_reducible refine (hW.out _).mono ?_); rintro e v1 ⟨rfl, hB1⟩; have hZ1 := hB1.size; (try simp at hZ1); (try have zl1 : w.heap.size < v1.heap.size := by omega); (try have ze1 : w.heap.size ≤ v1.heap.size := by omega); (try have zn1 : ¬ w.heap.size = v1.heap.size := by omega); (try have zm1 : ¬ v1.heap.size = w.heap.size := by omega); have hX1 : Blk v1 (w.heap.size) 25 #[.int .i64 e, .int .i64 a, .int .i64 b] := Blk.call (by (repeat (first | with_reducible assumption | (with_reducible apply Blk.new_at; (first | rfl | (simp; done))) | with_reducible apply Blk.store3 | with_reducible apply Blk.store4 | (with_reducible apply Blk.farp; (first | omega | (simp <;> omega))) | with_reducible apply Blk.allocp | with_reducible apply Blk.drew | with_reducible apply Blk.drewN))) hB1; have cX1 := hX1.cell; have fX1 := hX1.frozen; have lX1 := hX1.lt; have mX1 := Nat.ne_of_gt lX1; have nX1 := Nat.ne_of_lt lX1) | (go_at_call 46; (with_reducible refine (hRt.out _).mono ?_); rintro e v ⟨rfl, rfl⟩))
  clear dz dz2 dw aw Qw hQd hW hRt
  have hX2 : Blk ((v1.alloc (.cells #[.int .i64 1, .int .i64 a, .int .i64 b] 25)).alloc (.cells #[.int .i64 0, .int .i64 0] 73)) w.heap.size 25 #[.int .i64 e, .int .i64 a, .int .i64 b] := by (repeat (first | with_reducible assumption | (with_reducible apply Blk.new_at; (first | rfl | (simp; done))) | with_reducible apply Blk.store3 | with_reducible apply Blk.store4 | (with_reducible apply Blk.farp; (first | omega | (simp <;> omega))) | with_reducible apply Blk.allocp | with_reducible apply Blk.drew | with_reducible apply Blk.drewN))
  have hY2 : Blk ((v1.alloc (.cells #[.int .i64 1, .int .i64 a, .int .i64 b] 25)).alloc (.cells #[.int .i64 0, .int .i64 0] 73)) v1.heap.size 25 #[.int .i64 1, .int .i64 a, .int .i64 b] := (Blk.new_at rfl).alloc _
  have hB2 : Blk ((v1.alloc (.cells #[.int .i64 1, .int .i64 a, .int .i64 b] 25)).alloc (.cells #[.int .i64 0, .int .i64 0] 73)) (v1.heap.size + 1) 73 #[.int .i64 0, .int .i64 0] := Blk.new_at (by simp)
  have hb2 : Below w.heap.size w ((v1.alloc (.cells #[.int .i64 1, .int .i64 a, .int .i64 b] 25)).alloc (.cells #[.int .i64 0, .int .i64 0] 73)) := (by repeat (first | with_reducible exact Below.refl _ _ | with_reducible assumption | with_reducible apply Below.drew | with_reducible apply below_drewN | (with_reducible apply below_setp; (first | omega | (simp <;> omega))) | (with_reducible apply below_allocp; (first | omega | (simp <;> omega))) | (with_reducible refine below_viap (by assumption) ?_ ?_; (first | omega | (simp <;> omega)))))
  clear hX1 cX1 fX1 lX1 mX1 nX1 hB1
  generalize (v1.alloc (.cells #[.int .i64 1, .int .i64 a, .int .i64 b] 25)).alloc (.cells #[.int .i64 0, .int .i64 0] 73) = W at *
  have zW := hb2.size
  go_loopw [9, 11] (fun vf vv wr => ∃ x : Int, vv = .int .i64 x ∧ -r0 ≤ x ∧ x ≤ r0 + 1 ∧ GoSt (PVg G x) (v1.heap.size + 1) W vf wr) (fun _ vv _ => (r0 + 1 - intOf vv).toNat)
  case atStart =>
    refine ⟨-r0, by rw [HRw.out], Int.le_refl _, by have := HR0.out; omega, false, (0, 0), rfl, Lib.hid ⟨fun _ p h => ?_, fun h => by cases h⟩, Lib.hid (fun _ => rfl), Lib.hid (by decide), hB2, Below.refl _ _⟩
    have h2 := HB.out p (by rw [HGn.out]; exact h.1)
    have h3 := h.2
    omega
  case round =>
    clear hB2
    obtain ⟨x, rfl, x0, x1, f, q, rfl, hI, hQz, hQb, hBr, hbel⟩ := hrel
    have hz := hbel.size
    have hXr := hX2.below hbel (by omega); have hYr := hY2.below hbel (by omega)
    have cX := hXr.cell; have fX := hXr.frozen; have lX := hXr.lt; have cY := hYr.cell; have fY := hYr.frozen; have lY := hYr.lt; have cB := hBr.cell; have fB := hBr.frozen; have lB := hBr.lt
    by_cases hlt : x ≤ r0
    · obtain ⟨s0, s1, ⟨s2, s3⟩, s4, s5⟩ := HSq.out x x0 hlt
      have HxB := Lib.hid (show -200 ≤ x ∧ x ≤ 200 by have := HR0.out; omega)
      obtain ⟨S, hS⟩ : ∃ S, 4 * a + d * x * x = S := ⟨_, rfl⟩
      have HS := Lib.hid hS
      rw [hS] at s0 s1
      have ha := HA.out
      have K1 := Lib.hid (show wrap64 (4 * a) = 4 * a from IntWalk.wrap64_in _ (by omega))
      have K2 := Lib.hid (show wrap64 (d * x) = d * x from IntWalk.wrap64_in _ (by omega))
      have K3 := Lib.hid (show wrap64 (d * x * x) = d * x * x from IntWalk.wrap64_in _ (by omega))
      have K4 := Lib.hid (show wrap64 (4 * a + d * x * x) = S by rw [hS]; exact IntWalk.wrap64_in _ (by omega))
      have KX := Lib.hid (show wrap64 (x + 1) = x + 1 from IntWalk.wrap64_in _ (by have := HxB.out; omega))
      have hSq := Lib.hid (fun w => isSquare_any S w (by omega))
      have hRo := Lib.hid (fun w => root_any S w s0 (by omega))
      clear s2 s3 s4 s5 ha hS
      cases hsq : sqB S with
      | false =>
        rw [hsq] at hSq
        have hI2 := Lib.hid (bestI_same (P' := PVg G (x + 1)) hI.out (fun z => by have h := pv_skip (d := d) (a := a) (b := b) (v := x) (fun t => by have := sqB_no hsq t; rw [HS.out]; exact this) z; rw [HGn.out] at h; exact h))
        clear hsq hRo s0 s1 hI hXr hYr
        have k1 := K1.out; have k2 := K2.out; have k3 := K3.out; have k4 := K4.out; have kx := KX.out
        go_wp2_with (go_at_call 47; (with_reducible refine (hSq.out _).mono ?_); rintro e v ⟨rfl, rfl⟩)
        clear k1 k2 k3 k4 kx
        go_roundw
        case rel => exact ⟨x + 1, by first | rfl | rw [KX.out], by omega, by omega, f, q, rfl, hI2, hQz, hQb, hBr, hbel⟩
        case measure => (simp [intOf, KX.out]; omega)
      | true =>
        rw [hsq] at hSq
        have hrr := sqB_yes hsq
        obtain ⟨r, hr⟩ : ∃ r, rt S = r := ⟨_, rfl⟩
        obtain ⟨r1, r2, _, _⟩ := rt_bd s0 s1 hr
        rw [hr] at hrr hRo
        have HRR := Lib.hid (show r * r = 4 * a + d * x * x by rw [HS.out]; exact hrr)
        have HRb := Lib.hid (show 0 ≤ r ∧ r ≤ 200 from ⟨r1, r2⟩)
        have KR := Lib.hid (show wrap64 (-r) = -r from IntWalk.wrap64_in _ (by omega))
        have hI2 := Lib.hid (bestI_same hI.out (fun z => pg_into G x r z))
        clear hsq s0 s1 hI hr hrr r1 r2 HS
        have k1 := K1.out; have k2 := K2.out; have k3 := K3.out; have k4 := K4.out; have kr := KR.out
        go_wp2_with (first | (go_at_call 47; (with_reducible refine (hSq.out _).mono ?_); rintro e v ⟨rfl, rfl⟩) | (go_at_call 46; (with_reducible refine (hRo.out _).mono ?_); rintro e v ⟨rfl, rfl⟩))
        clear k1 k2 k3 k4 kr hSq hRo K1 K2 K3 K4
        have hU0 : Blk (wr.alloc (.cells #[.int .i64 r, .int .i64 (-r)] 3)) wr.heap.size 3 #[.int .i64 r, .int .i64 (-r)] := Blk.new_at rfl
        have hB0 : Blk (wr.alloc (.cells #[.int .i64 r, .int .i64 (-r)] 3)) (v1.heap.size + 1) 73 #[.int .i64 q.1, .int .i64 q.2] := hBr.alloc _
        have hbl0 : Below (v1.heap.size + 1) W (wr.alloc (.cells #[.int .i64 r, .int .i64 (-r)] 3)) := hbel.alloc (by omega) _
        have HLv := Lib.hid (fun z => by have h := pg_leave (d := d) (a := a) (b := b) (v := x) (r := r) HRR.out z; rw [HGn.out] at h; exact h)
        obtain ⟨wo, rfl⟩ : ∃ wo : World, wo = wr := ⟨_, rfl⟩
        clear hXr hYr cX fX lX cY fY lY cB fB lB hbel hBr
        go_loopw [9, 58] (fun vf vi wr => ∃ i : Nat, vi = .int .i64 i ∧ i ≤ 2 ∧ Hid (Blk wr wo.heap.size 3 #[.int .i64 r, .int .i64 (-r)]) ∧ wo.heap.size < wr.heap.size ∧ GoSt (PGg G x r i) (v1.heap.size + 1) W vf wr) (fun _ vi _ => 2 - (intOf vi).toNat)
        case atStart => exact ⟨0, rfl, by omega, Lib.hid hU0, by simp, f, q, rfl, hI2, hQz, hQb, hB0, hbl0⟩
        case round =>
          clear hU0 hB0 hbl0 hI2 hQz hQb
          obtain ⟨i, rfl, hi, hU, hus, f, q, rfl, hI, hQz, hQb, hBr, hbel⟩ := hrel
          have hz2 := hbel.size
          have hXr := hX2.below hbel (by omega); have hYr := hY2.below hbel (by omega)
          have cX := hXr.cell; have fX := hXr.frozen; have lX := hXr.lt; have cY := hYr.cell; have fY := hYr.frozen; have lY := hYr.lt; have cB := hBr.cell; have fB := hBr.frozen; have lB := hBr.lt
          by_cases hit : i < 2
          · have cU : wr.cell? ⟨wo.heap.size, i, none⟩ = some (.int .i64 (sgU i r)) := by
              rw [hU.out.cell]
              obtain rfl | rfl : i = 0 ∨ i = 1 := by omega
              · rfl
              · rfl
            have hub : (sgU i r) * (sgU i r) = 4 * a + d * x * x ∧ (-1000 ≤ sgU i r ∧ sgU i r ≤ 1000) := by
              have h1 := HRR.out; have h2 := HRb.out
              unfold sgU
              split
              · exact ⟨h1, by omega⟩
              · exact ⟨by rw [Int.neg_mul_neg]; exact h1, by omega⟩
            have hxb := HxB.out
            have hE := HEl.out (sgU i r) x hub.1 hub.2 (by omega)
            have HPar := Lib.hid hE.par
            obtain ⟨e1, A1, R1, hiff, hpr⟩ := HT.out _ _ hE
            have HPr := Lib.hid hpr
            have hGi : G (sgU i r, x) ↔ 2 * a ∣ sgU i r + b * x := by
              rw [← HGn.out]
              exact ⟨fun h => h.2, fun h => ⟨by show sgU i r * sgU i r - d * x * x = 4 * a; have := hub.1; omega, h⟩⟩
            have HTk := Lib.hid (fun hg => pg_take (G := G) (v := x) (r := r) hit hg)
            have HSk := Lib.hid (fun hg => pg_skip (G := G) (v := x) (r := r) hit hg)
            have HUb := Lib.hid hub.2
            clear hub hE hpr
            generalize sgU i r = u at *
            obtain ⟨B, hB⟩ : ∃ B : Bool, (B = true ↔ G (u, x)) := ⟨@decide (G (u, x)) (Classical.propDecidable _), by simp⟩
            have hBt : B = true → e1 = 1 ∧ A1 = a ∧ R1 = b := fun h => hiff.2 (hGi.1 (hB.1 h))
            have hBf : B = false → ¬ (e1 = 1 ∧ A1 = a ∧ R1 = b) := fun h k => by have := hB.2 (hGi.2 (hiff.1 k)); rw [h] at this; cases this
            have HBG := Lib.hid hB
            have iI : (i : Int) < 2 := by omega
            have KU := Lib.hid (show wrap64 (d * x) = d * x from IntWalk.wrap64_in _ (by have := HSq.out x x0 hlt; omega))
            have i1 : IntKind.i64.wrap (d * x) = d * x := IntWalk.i64_in _ (by have := HSq.out x x0 hlt; omega)
            have i2 : IntKind.i64.wrap (u - d * x) = u - d * x := IntWalk.i64_in _ (by have := HSq.out x x0 hlt; have := HUb.out; omega)
            have i3 : (u - d * x).tmod 2 = 0 := tmod_two.2 HPar.out
            have Hi := Lib.hid (show IntKind.i64.wrap (d * x) = d * x ∧ IntKind.i64.wrap (u - d * x) = u - d * x ∧ (u - d * x).tmod 2 = 0 from ⟨i1, i2, i3⟩)
            clear hiff hGi hB hxb i1 i2 i3
            go_upto_region 14 with (fail)
            go_cut [76] from 62 to 76 (fun s wx => s = .bool (!B) ∧ Below wr.heap.size wr wx)
            case first =>
              obtain ⟨i1, i2, i3⟩ := Hi.out
              cases B with
              | true =>
                obtain ⟨h1, h2, h3⟩ := hBt rfl
                rw [h1, h2, h3] at HPr
                clear hBt hBf h1 h2 h3
                refine wp_region_calm 15 (Below (wr.heap.size) _) (by kernel_rfl) (by kernel_rfl) ((Below.refl _ _).drew) ?_
                simp only [List.take_succ_cons, List.take_zero, List.drop_succ_cons, List.drop_zero]
                repeat (first | (apply wpCalm_go; go_simp; (intro w' hw' hcc hff; go_simp; first | exact rfl | ((with_reducible refine (HPr.out _).mono ?_); rintro ee x1 ⟨rfl, hb⟩; exact ⟨rfl, calm_call (by first | exact Nat.le_refl _ | (simp <;> omega)) hw' hb⟩)); (intro K hK; go_simp; refine hK _ ?_; clear hK K)) | (apply wpCalm_skip; go_simp; (try (focus (simp [undef]; done))); (intro K hK; go_simp; refine hK _ ?_; clear hK K)))
                refine wpCalm_nil ?_
                intro w1 hw1
                have hcc := (calm_cells hw1).1
                have hff := (calm_cells hw1).2
                have hss := calm_size hw1
                have hsz := hw1.size
                (try simp at hsz)
                go_wp2_with fail
                go_meet
                exact ⟨rfl, hw1⟩
              | false =>
                have htri := tri_cases (hBf rfl)
                clear hBt hBf
                rcases htri with h | ⟨h, k⟩ | ⟨h, k, l⟩
                · have hb1 : (e1 == 1) = false := beq_eq_false_iff_ne.2 h
                  clear h
                  refine wp_region_calm 15 (Below (wr.heap.size) _) (by kernel_rfl) (by kernel_rfl) ((Below.refl _ _).drew) ?_
                  simp only [List.take_succ_cons, List.take_zero, List.drop_succ_cons, List.drop_zero]
                  repeat (first | (apply wpCalm_go; go_simp; (intro w' hw' hcc hff; go_simp; first | exact rfl | ((with_reducible refine (HPr.out _).mono ?_); rintro ee x1 ⟨rfl, hb⟩; exact ⟨rfl, calm_call (by first | exact Nat.le_refl _ | (simp <;> omega)) hw' hb⟩)); (intro K hK; go_simp; refine hK _ ?_; clear hK K)) | (apply wpCalm_skip; go_simp; (try (focus (simp [undef]; done))); (intro K hK; go_simp; refine hK _ ?_; clear hK K)))
                  refine wpCalm_nil ?_
                  intro w1 hw1
                  have hcc := (calm_cells hw1).1
                  have hff := (calm_cells hw1).2
                  have hss := calm_size hw1
                  have hsz := hw1.size
                  (try simp at hsz)
                  go_wp2_with fail
                  go_meet
                  exact ⟨rfl, hw1⟩
                · have hb1 : (A1 == a) = false := beq_eq_false_iff_ne.2 k
                  rw [h] at HPr
                  clear h k
                  refine wp_region_calm 15 (Below (wr.heap.size) _) (by kernel_rfl) (by kernel_rfl) ((Below.refl _ _).drew) ?_
                  simp only [List.take_succ_cons, List.take_zero, List.drop_succ_cons, List.drop_zero]
                  repeat (first | (apply wpCalm_go; go_simp; (intro w' hw' hcc hff; go_simp; first | exact rfl | ((with_reducible refine (HPr.out _).mono ?_); rintro ee x1 ⟨rfl, hb⟩; exact ⟨rfl, calm_call (by first | exact Nat.le_refl _ | (simp <;> omega)) hw' hb⟩)); (intro K hK; go_simp; refine hK _ ?_; clear hK K)) | (apply wpCalm_skip; go_simp; (try (focus (simp [undef]; done))); (intro K hK; go_simp; refine hK _ ?_; clear hK K)))
                  refine wpCalm_nil ?_
                  intro w1 hw1
                  have hcc := (calm_cells hw1).1
                  have hff := (calm_cells hw1).2
                  have hss := calm_size hw1
                  have hsz := hw1.size
                  (try simp at hsz)
                  go_wp2_with fail
                  go_meet
                  exact ⟨rfl, hw1⟩
                · have hb1 : (R1 == b) = false := beq_eq_false_iff_ne.2 l
                  rw [h, k] at HPr
                  clear h k l
                  refine wp_region_calm 15 (Below (wr.heap.size) _) (by kernel_rfl) (by kernel_rfl) ((Below.refl _ _).drew) ?_
                  simp only [List.take_succ_cons, List.take_zero, List.drop_succ_cons, List.drop_zero]
                  repeat (first | (apply wpCalm_go; go_simp; (intro w' hw' hcc hff; go_simp; first | exact rfl | ((with_reducible refine (HPr.out _).mono ?_); rintro ee x1 ⟨rfl, hb⟩; exact ⟨rfl, calm_call (by first | exact Nat.le_refl _ | (simp <;> omega)) hw' hb⟩)); (intro K hK; go_simp; refine hK _ ?_; clear hK K)) | (apply wpCalm_skip; go_simp; (try (focus (simp [undef]; done))); (intro K hK; go_simp; refine hK _ ?_; clear hK K)))
                  refine wpCalm_nil ?_
                  intro w1 hw1
                  have hcc := (calm_cells hw1).1
                  have hff := (calm_cells hw1).2
                  have hss := calm_size hw1
                  have hsz := hw1.size
                  (try simp at hsz)
                  go_wp2_with fail
                  go_meet
                  exact ⟨rfl, hw1⟩
            case rest =>
              obtain ⟨rfl, hbc⟩ := hcut
              have hzc := hbc.size
              have hB3 := hBr.call hbc
              have hX3 := hXr.call hbc
              have hY3 := hYr.call hbc
              have hU3 := Lib.hid (hU.out.call hbc)
              have bel3 := below_via hbel hbc (by omega)
              have usw : wo.heap.size < wc.heap.size := by omega
              have cX := hX3.cell; have fX := hX3.frozen; have lX := hX3.lt; have cY := hY3.cell; have fY := hY3.frozen; have lY := hY3.lt; have cB := hB3.cell; have fB := hB3.frozen; have lB := hB3.lt
              have ib : i ≤ 1 := by omega
              have nbu : v1.heap.size + 1 ≠ wo.heap.size := Blk.ne_ hB3 hU3.out (by decide)
              clear hbc hBt hBf HPr Hi KU HPar cU
              cases B with
              | false =>
                have hI3 := Lib.hid (bestI_same (P' := PGg G x r (i + 1)) hI.out (HSk.out (fun h => by have := HBG.out.2 h; cases this)))
                clear hI HSk HTk
                go_wp2
                go_roundw
                case rel => exact ⟨i + 1, by go_num, by omega, hU3, usw, f, q, rfl, hI3, hQz, hQb, hB3, bel3⟩
                case measure => (first | (simp [intOf]; done) | (simp [intOf]; omega))
              | true =>
                have hg := HBG.out.1 rfl
                have HT2 := Lib.hid (HTk.out hg)
                clear HSk HTk hg HBG
                obtain ⟨q1, q2⟩ := q
                dsimp only at cB hB3 hQb
                cases f with
                | false =>
                  have hI3 := Lib.hid (bestI_new (P' := PGg G x r (i + 1)) hI.out HT2.out (.inl rfl))
                  clear hI HT2
                  go_wp2
                  go_roundw
                  case rel => exact ⟨i + 1, by go_num, by omega, Lib.hid (by have := hU3.out; (repeat (first | with_reducible assumption | (with_reducible apply Blk.new_at; (first | rfl | (simp; done))) | with_reducible apply Blk.store2 | with_reducible apply Blk.store3 | with_reducible apply Blk.store4 | (with_reducible apply Blk.farp; (first | omega | (simp <;> omega))) | with_reducible apply Blk.allocp | with_reducible apply Blk.drew | with_reducible apply Blk.drewN))), (by simp; omega), true, (u, x), rfl, hI3, Lib.hid (fun h => by cases h), Lib.hid (by have := HUb.out; have := HxB.out; exact ⟨by omega, by show -1000 ≤ x ∧ x ≤ 1000; omega⟩), by (repeat (first | with_reducible assumption | (with_reducible apply Blk.new_at; (first | rfl | (simp; done))) | with_reducible apply Blk.store2 | with_reducible apply Blk.store3 | with_reducible apply Blk.store4 | (with_reducible apply Blk.farp; (first | omega | (simp <;> omega))) | with_reducible apply Blk.allocp | with_reducible apply Blk.drew | with_reducible apply Blk.drewN)), (by repeat (first | with_reducible exact Below.refl _ _ | with_reducible assumption | with_reducible apply Below.drew | with_reducible apply below_drewN | (with_reducible apply below_setp; (first | omega | (simp <;> omega))) | (with_reducible apply below_allocp; (first | omega | (simp <;> omega))) | (with_reducible refine below_viap (by assumption) ?_ ?_; (first | omega | (simp <;> omega)))))⟩
                  case measure => (first | (simp [intOf]; done) | (simp [intOf]; omega))
                | true =>
                  by_cases g1 : q1 < u
                  · have hI3 := Lib.hid (bestI_new (P' := PGg G x r (i + 1)) hI.out HT2.out (.inr (.inl g1)))
                    clear hI HT2
                    go_wp2
                    go_roundw
                    case rel => exact ⟨i + 1, by go_num, by omega, Lib.hid (by have := hU3.out; (repeat (first | with_reducible assumption | (with_reducible apply Blk.new_at; (first | rfl | (simp; done))) | with_reducible apply Blk.store2 | with_reducible apply Blk.store3 | with_reducible apply Blk.store4 | (with_reducible apply Blk.farp; (first | omega | (simp <;> omega))) | with_reducible apply Blk.allocp | with_reducible apply Blk.drew | with_reducible apply Blk.drewN))), (by simp; omega), true, (u, x), rfl, hI3, Lib.hid (fun h => by cases h), Lib.hid (by have := HUb.out; have := HxB.out; exact ⟨by omega, by show -1000 ≤ x ∧ x ≤ 1000; omega⟩), by (repeat (first | with_reducible assumption | (with_reducible apply Blk.new_at; (first | rfl | (simp; done))) | with_reducible apply Blk.store2 | with_reducible apply Blk.store3 | with_reducible apply Blk.store4 | (with_reducible apply Blk.farp; (first | omega | (simp <;> omega))) | with_reducible apply Blk.allocp | with_reducible apply Blk.drew | with_reducible apply Blk.drewN)), (by repeat (first | with_reducible exact Below.refl _ _ | with_reducible assumption | with_reducible apply Below.drew | with_reducible apply below_drewN | (with_reducible apply below_setp; (first | omega | (simp <;> omega))) | (with_reducible apply below_allocp; (first | omega | (simp <;> omega))) | (with_reducible refine below_viap (by assumption) ?_ ?_; (first | omega | (simp <;> omega)))))⟩
                    case measure => (first | (simp [intOf]; done) | (simp [intOf]; omega))
                  · by_cases g2 : q1 = u
                    · have g3 : (u == q1) = true := by rw [beq_iff_eq]; exact g2.symm
                      by_cases g4 : q2 < x
                      · have hlex := Lib.hid (show LexG (q1, q2) (u, x) from .inr ⟨g2, g4⟩)
                        clear g2
                        have hI3 := Lib.hid (bestI_new (P' := PGg G x r (i + 1)) hI.out HT2.out (.inr hlex.out))
                        clear hI HT2
                        go_wp2
                        go_roundw
                        case rel => exact ⟨i + 1, by go_num, by omega, Lib.hid (by have := hU3.out; (repeat (first | with_reducible assumption | (with_reducible apply Blk.new_at; (first | rfl | (simp; done))) | with_reducible apply Blk.store2 | with_reducible apply Blk.store3 | with_reducible apply Blk.store4 | (with_reducible apply Blk.farp; (first | omega | (simp <;> omega))) | with_reducible apply Blk.allocp | with_reducible apply Blk.drew | with_reducible apply Blk.drewN))), (by simp; omega), true, (u, x), rfl, hI3, Lib.hid (fun h => by cases h), Lib.hid (by have := HUb.out; have := HxB.out; exact ⟨by omega, by show -1000 ≤ x ∧ x ≤ 1000; omega⟩), by (repeat (first | with_reducible assumption | (with_reducible apply Blk.new_at; (first | rfl | (simp; done))) | with_reducible apply Blk.store2 | with_reducible apply Blk.store3 | with_reducible apply Blk.store4 | (with_reducible apply Blk.farp; (first | omega | (simp <;> omega))) | with_reducible apply Blk.allocp | with_reducible apply Blk.drew | with_reducible apply Blk.drewN)), (by repeat (first | with_reducible exact Below.refl _ _ | with_reducible assumption | with_reducible apply Below.drew | with_reducible apply below_drewN | (with_reducible apply below_setp; (first | omega | (simp <;> omega))) | (with_reducible apply below_allocp; (first | omega | (simp <;> omega))) | (with_reducible refine below_viap (by assumption) ?_ ?_; (first | omega | (simp <;> omega)))))⟩
                        case measure => (first | (simp [intOf]; done) | (simp [intOf]; omega))
                      · have hI3 := Lib.hid (bestI_old (P' := PGg G x r (i + 1)) hI.out HT2.out (fun h => by unfold LexG at h; simp only at h; omega))
                        clear hI HT2 g2
                        go_wp2
                        go_roundw
                        case rel => exact ⟨i + 1, by go_num, by omega, hU3, usw, true, (q1, q2), rfl, hI3, hQz, hQb, hB3, bel3⟩
                        case measure => (first | (simp [intOf]; done) | (simp [intOf]; omega))
                    · have g3 : (u == q1) = false := beq_eq_false_iff_ne.2 (fun h => g2 h.symm)
                      have hI3 := Lib.hid (bestI_old (P' := PGg G x r (i + 1)) hI.out HT2.out (fun h => by unfold LexG at h; simp only at h; omega))
                      clear hI HT2 g2
                      go_wp2
                      go_roundw
                      case rel => exact ⟨i + 1, by go_num, by omega, hU3, usw, true, (q1, q2), rfl, hI3, hQz, hQb, hB3, bel3⟩
                      case measure => (first | (simp [intOf]; done) | (simp [intOf]; omega))
          · obtain rfl : i = 2 := by omega
            have hI3 := Lib.hid (bestI_same (P' := PVg G (x + 1)) hI.out (fun z => (HLv.out z).symm))
            have kx := KX.out
            clear hI
            go_wp2
            clear kx
            go_roundw
            case rel => exact ⟨x + 1, by first | rfl | rw [KX.out], by omega, by omega, f, q, rfl, hI3, hQz, hQb, hBr, hbel⟩
            case measure => (simp [intOf, KX.out]; omega)
    · obtain rfl : x = r0 + 1 := by omega
      have hI3 := Lib.hid (bestI_same (P' := G) hI.out (fun z => ⟨fun h => ⟨h, by have := HB.out z (by rw [HGn.out]; exact h); omega⟩, fun h => h.1⟩))
      obtain ⟨q1, q2⟩ := q
      have hq := hQb.out
      have ha := HA.out
      dsimp only at hq cB
      have m1 := mul_bd (a := e) (x := q1) (A := 10000) (X := 1000) (by omega) (by omega) (by omega) (by omega)
      have m2 := mul_bd (a := e) (x := q2) (A := 10000) (X := 1000) (by omega) (by omega) (by omega) (by omega)
      have j1 : IntKind.i64.wrap (e * q1) = e * q1 := IntWalk.i64_in _ (by omega)
      have j2 : IntKind.i64.wrap (e * q2) = e * q2 := IntWalk.i64_in _ (by omega)
      have hb9 := below_via hb2 hbel (by omega)
      clear hI hq ha m1 m2 hXr hYr
      go_wp2
      refine wp_region_calm 14 (Below (wr.heap.size) _) (by kernel_rfl) (by kernel_rfl) ((Below.refl _ _).drew) ?_
      simp only [List.take_succ_cons, List.take_zero, List.drop_succ_cons, List.drop_zero]
      repeat (first | (apply wpCalm_go; go_simp; (intro w' hw' hcc hff; go_simp; first | exact rfl | fail); (intro K hK; go_simp; refine hK _ ?_; clear hK K)) | (apply wpCalm_skip; go_simp; (try (focus (simp [undef]; done))); (intro K hK; go_simp; refine hK _ ?_; clear hK K)))
      refine wpCalm_nil ?_
      intro w1 hw1
      have hcc := (calm_cells hw1).1
      have hff := (calm_cells hw1).2
      have hss := calm_size hw1
      have hsz := hw1.size
      (try simp at hsz)
      clear hcc hff hss
      go_wp2
      go_ret3
      exact ⟨f, (q1, q2), rfl, hI3.out, hQz.out, hQb.out, below_via hb9 hw1 (by omega)⟩
end

section
open Go.RowKit

theorem spEq_scale (e : Int) {a b c d x y z t : Int} (h : SpEq [(a, b), (c, d)] [(x, y), (z, t)]) : SpEq [(e * a, e * b), (e * c, e * d)] [(e * x, e * y), (e * z, e * t)] := by
  have key : ∀ {a b c d x y z t : Int}, (∀ p, Sp [(a, b), (c, d)] p → Sp [(x, y), (z, t)] p) → ∀ p ∈ [(e * a, e * b), (e * c, e * d)], Sp [(e * x, e * y), (e * z, e * t)] p := by
    intro a b c d x y z t h p hp
    rcases List.mem_cons.1 hp with rfl | hp
    · obtain ⟨k, l, h1, h2⟩ := Sp.two_iff.1 (h (a, b) (Sp.mem (by simp)))
      exact Sp.two k l (by rw [h1]; grind) (by rw [h2]; grind)
    · obtain rfl := List.mem_singleton.1 hp
      obtain ⟨k, l, h1, h2⟩ := Sp.two_iff.1 (h (c, d) (Sp.mem (by simp)))
      exact Sp.two k l (by rw [h1]; grind) (by rw [h2]; grind)
  exact SpEq.of (key fun p => (h p).1) (key fun p => (h p).2)
/-- The multiples of a generator generate the multiples of its ideal. -/
theorem gen_scale {d e a b q1 q2 : Int} (V : IdV d e a b) (hE : ElV d q1 q2 a) (hG : Gn d a b (q1, q2)) (hE2 : ElV d (e * q1) (e * q2) (e * e * a)) :
    ∀ w, Calls Tryz.prog 48 #[.int .i64 d, .int .i64 (e * q1), .int .i64 (e * q2)] w fun x w' => x = .returned (.agg #[.int .i64 e, .int .i64 a, .int .i64 b]) ∧ Below w.heap.size w w' := by
  obtain ⟨X0, Y0, m0, hm0, hs0, hX0, hY0, _⟩ := hE.gens
  have hX0' : d % 2 * q1 + (4 * m0 + d % 2) * q2 = 2 * X0 := by rw [← hm0]; exact hX0
  have hn0 : q1 * q1 - (4 * m0 + d % 2) * q2 * q2 = 4 * a := by rw [← hm0]; exact hE.nm
  obtain ⟨e0, A0, t0, he0, hA0, heA0, hsp0⟩ := prn_ex hs0 hX0' hY0 hE.a0 hn0
  obtain ⟨c, hc, _⟩ := V.form
  obtain ⟨k, hk⟩ := V.par
  have hiff := prn_iff (m := m0) (s := d % 2) hX0' hY0 hE.a0 he0 heA0 (by rw [← hm0]; exact hc) hk ⟨V.b0, V.b2⟩ hsp0
  obtain ⟨r1, r2, r3⟩ := hiff.2 hG.2
  subst r1 r2
  obtain ⟨e1, A1, t1, he1, hA1, heA1, ⟨X, Y, m, hm, hX, hY, hsp⟩, hw⟩ := principal_any d (e * q1) (e * q2) (e * e * A0) hE2
  have hXe : X = e * X0 := by
    have : 2 * X = 2 * (e * X0) := by
      rw [← hX, show 2 * (e * X0) = e * (2 * X0) by grind, ← hX0]; grind
    omega
  have hYe : Y = e * Y0 := by
    have : 2 * Y = 2 * (e * Y0) := by
      rw [← hY, show 2 * (e * Y0) = e * (2 * Y0) by grind, ← hY0]; grind
    omega
  rw [hXe, hYe] at hsp
  have hs2 := hsp.trans (spEq_scale e hsp0).symm
  have eV := V.e1
  have aV := V.a1
  have z1 : e * 0 = 0 := Int.mul_zero e
  rw [z1] at hs2
  have p1 : 0 < e * (2 * 1 * A0) := Int.mul_pos (by omega) (by omega)
  have p2 : 0 < e * 1 := by omega
  obtain ⟨u1, u2, u3⟩ := hnf_uniq p1 p2 (Int.le_of_lt (Int.mul_pos (by omega) hA1)) (by omega) hs2
  have ee : e1 = e := by omega
  subst ee
  have eA : A1 = A0 := by
    have h1 : e1 * (2 * A1) = e1 * (2 * A0) := by
      rw [Int.mul_left_comm, ← Int.mul_assoc, u2, Int.mul_one]
    have := Int.eq_of_mul_eq_mul_left (show e1 ≠ 0 by omega) h1
    omega
  subst eA
  have hR : (-t1) % (2 * A1) = b := by
    obtain ⟨j, hj⟩ := u3
    have h1 : e1 * (t1 - t0) = e1 * (2 * A1 * j) := by
      rw [Int.one_mul] at hj
      rw [Int.mul_sub, hj, Int.mul_one, Int.mul_assoc]
    have h2 := Int.eq_of_mul_eq_mul_left (show e1 ≠ 0 by omega) h1
    rw [show -t1 = -t0 + 2 * A1 * (-j) by rw [Int.mul_neg]; omega, Int.add_mul_emod_self_left]
    exact r3
  rw [hR] at hw
  exact hw
theorem isNumber_any (n : Int) (w : World) : Calls Tryz.prog 18 #[.int .i64 n] w fun e w' => e = .returned (.bool (isNum n)) ∧ Below w.heap.size w w' := by
  have hN := Lib.hid (fun e w => areNumF n e w)
  go_enter Tryz.func18, Tryz.ntmps18
  go_wp2_with (go_at_call 40; (with_reducible refine (hN.out _ _).mono ?_); rintro e v1 ⟨rfl, rfl⟩)
  go_ret
  exact ⟨rfl, (by repeat (first | with_reducible exact Below.refl _ _ | with_reducible assumption | with_reducible apply Below.drew | with_reducible apply below_drewN | (with_reducible apply below_setp; (first | omega | (simp <;> omega))) | (with_reducible apply below_allocp; (first | omega | (simp <;> omega))) | (with_reducible refine below_viap (by assumption) ?_ ?_; (first | omega | (simp <;> omega)))))⟩
theorem areNumZ (x y : Int) (e : TypeId) (w : World) (hx : isNum x = true) (hy : isNum y = true) :
    Calls Tryz.prog 40 #[.slice (some ⟨w.heap.size, 0, none⟩) 2 2] (w.alloc (.cells #[.int .i64 x, .int .i64 y] e)) fun e1 w' => e1 = .returned (.bool true) ∧ w.alloc (.cells #[.int .i64 x, .int .i64 y] e) = w' := by
  have hc : ∀ j, j < 2 → (w.alloc (.cells #[.int .i64 x, .int .i64 y] e)).cell? ⟨w.heap.size, j, none⟩ = some (.int .i64 ([x, y].getD j 0)) := by
    intro j hj
    match j, hj with
    | 0, _ => simp [go_sem]
    | 1, _ => simp [go_sem]
  have k := areNumbers_any w.heap.size 2 2 [x, y] (w.alloc (.cells #[.int .i64 x, .int .i64 y] e)) rfl (by omega) hc
  rw [show [x, y].all isNum = true by simp [hx, hy]] at k
  exact k
set_option maxHeartbeats 1600000 in
theorem isElem_any (d u v : Int) (w : World) (hd : -2000 ≤ d ∧ d ≤ 0) (hu : isNum u = true) (hv : isNum v = true) (hp : (u - d * v) % 2 = 0) : Calls Tryz.prog 54 #[.int .i64 d, .int .i64 u, .int .i64 v] w fun e w' => e = .returned (.bool true) ∧ Below w.heap.size w w' := by
  have hN := Lib.hid (fun e w => areNumZ u v e w hu hv)
  rw [isNum_iff] at hu hv
  have m1 := mul_bd (a := d) (x := v) (A := 2000) (X := 1000000) (by omega) (by omega) (by omega) (by omega)
  have K1 := Lib.hid (show wrap64 (d * v) = d * v from IntWalk.wrap64_in _ (by omega))
  have K2 := Lib.hid (show wrap64 (u - d * v) = u - d * v from IntWalk.wrap64_in _ (by omega))
  have k3 : (u - d * v).tmod 2 = 0 := tmod_two.2 hp
  clear hp hu hv m1 hd
  have k1 := K1.out; have k2 := K2.out
  go_enter Tryz.func54, Tryz.ntmps54
  go_wp2_with (go_at_call 40; (with_reducible refine (hN.out _ _).mono ?_); rintro e v1 ⟨rfl, rfl⟩)
  go_ret
  exact ⟨rfl, (by repeat (first | with_reducible exact Below.refl _ _ | with_reducible assumption | with_reducible apply Below.drew | with_reducible apply below_drewN | (with_reducible apply below_setp; (first | omega | (simp <;> omega))) | (with_reducible apply below_allocp; (first | omega | (simp <;> omega))) | (with_reducible refine below_viap (by assumption) ?_ ?_; (first | omega | (simp <;> omega)))))⟩
set_option maxRecDepth 100000 in
set_option maxHeartbeats 3200000 in
/-- The principal ideal of the multiple of a generator. -/
theorem implPI_any (d e a b q1 q2 : Int) (w : World) (hp : piB d = true) (V : IdV d e a b) (hG : Gn d a b (q1, q2)) (hq : (-1000 ≤ q1 ∧ q1 ≤ 1000) ∧ (-1000 ≤ q2 ∧ q2 ≤ 1000)) (hu : isNum (e * q1) = true) (hv : isNum (e * q2) = true) :
    Calls Tryz.prog 19 #[.int .i64 d, .int .i64 (e * q1), .int .i64 (e * q2)] w fun x w' => x = .returned (.tuple #[.agg #[.int .i64 e, .int .i64 a, .int .i64 b], .bool true]) ∧ Below w.heap.size w w' := by
  obtain ⟨⟨d1, d2⟩, d4⟩ := piB_d hp
  have hdc := (piB_disc hp).1
  have hE : ElV d q1 q2 a := ⟨d1, d2, d4, by have := V.a1; omega, by have := V.a2; omega, hG.1, by omega, by omega⟩
  have hu1 := (isNum_iff _).1 hu
  have hv1 := (isNum_iff _).1 hv
  have m0 := mul_bd (a := e) (x := e) (A := 10000) (X := 10000) (by have := V.e1; omega) (by have := V.e2; omega) (by have := V.e1; omega) (by have := V.e2; omega)
  have m1 := mul_bd (a := e * e) (x := a) (A := 100000000) (X := 10000) (by omega) (by omega) (by have := V.a1; omega) (by have := V.a2; omega)
  have hE2 : ElV d (e * q1) (e * q2) (e * e * a) := ⟨d1, d2, d4, Int.mul_pos (Int.mul_pos (by have := V.e1; omega) (by have := V.e1; omega)) (by have := V.a1; omega), by omega, by
    have h := hE.nm
    have e1 : e * q1 * (e * q1) - d * (e * q2) * (e * q2) = e * e * (q1 * q1 - d * q2 * q2) := by grind
    rw [e1, h]; grind, by omega, by omega⟩
  have hPr := Lib.hid (gen_scale V hE hG hE2)
  have hN := Lib.hid (fun w => isNegativeDisc_any d w)
  rw [hdc] at hN
  have hEl := Lib.hid (fun w => isElem_any d (e * q1) (e * q2) w ⟨d1, by omega⟩ hu hv hE2.par)
  have hVa := Lib.hid (fun w => validIdeal_any d e a b w)
  rw [idB_iff.2 V, if_pos rfl] at hVa
  have hnz : e * q1 ≠ 0 ∨ (e * q1 = 0 ∧ e * q2 ≠ 0) := by
    by_cases h1 : e * q1 = 0
    · right
      refine ⟨h1, fun h2 => ?_⟩
      have h := hE2.nm
      have := hE2.a0
      rw [h1, h2] at h
      simp at h
      omega
    · exact .inl h1
  clear hp V hG hq hu hv hdc hE hE2 hu1 hv1 m0 m1 d1 d2 d4
  generalize e * q1 = u at *
  generalize e * q2 = v at *
  rcases hnz with h | ⟨h, k⟩
  · have hb : (u == 0) = false := beq_eq_false_iff_ne.2 h
    clear h
    go_enter Tryz.func19, Tryz.ntmps19
    go_wp2_with (first | (go_at_call 53; (with_reducible refine (hN.out _).mono ?_); rintro e v ⟨rfl, rfl⟩) | (go_at_call 54; (with_reducible refine (hEl.out _).mono ?_); rintro e v1 ⟨rfl, hB1⟩; have hZ1 := hB1.size; (try simp at hZ1); (try have zl1 : w.heap.size < v1.heap.size := by omega); (try have ze1 : w.heap.size ≤ v1.heap.size := by omega); (try have zn1 : ¬ w.heap.size = v1.heap.size := by omega); (try have zm1 : ¬ v1.heap.size = w.heap.size := by omega); have hR1 : Blk v1 (w.heap.size) 25 #[.int .i64 0, .int .i64 0, .int .i64 0] := Blk.call (by (repeat (first | with_reducible assumption | (with_reducible apply Blk.new_at; (first | rfl | (simp; done))) | with_reducible apply Blk.store3 | with_reducible apply Blk.store4 | (with_reducible apply Blk.farp; (first | omega | (simp <;> omega))) | with_reducible apply Blk.allocp | with_reducible apply Blk.drew | with_reducible apply Blk.drewN))) hB1; have cR1 := hR1.cell; have fR1 := hR1.frozen; have lR1 := hR1.lt; have mR1 := Nat.ne_of_gt lR1; have nR1 := Nat.ne_of_lt lR1) | (go_at_call 48; (with_reducible refine (hPr.out _).mono ?_); rintro e v2 ⟨rfl, hB2⟩; have hZ2 := hB2.size; (try simp at hZ2); (try have zl2 : w.heap.size < v2.heap.size := by omega); (try have ze2 : w.heap.size ≤ v2.heap.size := by omega); (try have zn2 : ¬ w.heap.size = v2.heap.size := by omega); (try have zm2 : ¬ v2.heap.size = w.heap.size := by omega); have hR2 : Blk v2 (w.heap.size) 25 #[.int .i64 0, .int .i64 0, .int .i64 0] := Blk.call (by (repeat (first | with_reducible assumption | (with_reducible apply Blk.new_at; (first | rfl | (simp; done))) | with_reducible apply Blk.store3 | with_reducible apply Blk.store4 | (with_reducible apply Blk.farp; (first | omega | (simp <;> omega))) | with_reducible apply Blk.allocp | with_reducible apply Blk.drew | with_reducible apply Blk.drewN))) hB2; have cR2 := hR2.cell; have fR2 := hR2.frozen; have lR2 := hR2.lt; have mR2 := Nat.ne_of_gt lR2; have nR2 := Nat.ne_of_lt lR2) | (go_at_call 31; (with_reducible refine (hVa.out _).mono ?_); rintro e v3 ⟨rfl, hB3⟩; have hZ3 := hB3.size; (try simp at hZ3); (try have zl3 : w.heap.size < v3.heap.size := by omega); (try have ze3 : w.heap.size ≤ v3.heap.size := by omega); (try have zn3 : ¬ w.heap.size = v3.heap.size := by omega); (try have zm3 : ¬ v3.heap.size = w.heap.size := by omega); have hR3 : Blk v3 (w.heap.size) 25 #[.int .i64 0, .int .i64 0, .int .i64 0] := Blk.call (by (repeat (first | with_reducible assumption | (with_reducible apply Blk.new_at; (first | rfl | (simp; done))) | with_reducible apply Blk.store3 | with_reducible apply Blk.store4 | (with_reducible apply Blk.farp; (first | omega | (simp <;> omega))) | with_reducible apply Blk.allocp | with_reducible apply Blk.drew | with_reducible apply Blk.drewN))) hB3; have cR3 := hR3.cell; have fR3 := hR3.frozen; have lR3 := hR3.lt; have mR3 := Nat.ne_of_gt lR3; have nR3 := Nat.ne_of_lt lR3))
    exact bodyPost_ret (v := .tuple #[.agg #[.int .i64 e, .int .i64 a, .int .i64 b], .bool true]) (by simp [results, Tryz.results19, go_sem, *]) rfl ⟨rfl, (by repeat (first | with_reducible exact Below.refl _ _ | with_reducible assumption | with_reducible apply Below.drew | with_reducible apply below_drewN | (with_reducible apply below_setp; (first | omega | (simp <;> omega))) | (with_reducible apply below_allocp; (first | omega | (simp <;> omega))) | (with_reducible refine below_viap (by assumption) ?_ ?_; (first | omega | (simp <;> omega)))))⟩
  · have hb : (v == 0) = false := beq_eq_false_iff_ne.2 k
    have hb2 : (u == 0) = true := by rw [beq_iff_eq]; exact h
    clear h k
    go_enter Tryz.func19, Tryz.ntmps19
    go_wp2_with (first | (go_at_call 53; (with_reducible refine (hN.out _).mono ?_); rintro e v ⟨rfl, rfl⟩) | (go_at_call 54; (with_reducible refine (hEl.out _).mono ?_); rintro e v1 ⟨rfl, hB1⟩; have hZ1 := hB1.size; (try simp at hZ1); (try have zl1 : w.heap.size < v1.heap.size := by omega); (try have ze1 : w.heap.size ≤ v1.heap.size := by omega); (try have zn1 : ¬ w.heap.size = v1.heap.size := by omega); (try have zm1 : ¬ v1.heap.size = w.heap.size := by omega); have hR1 : Blk v1 (w.heap.size) 25 #[.int .i64 0, .int .i64 0, .int .i64 0] := Blk.call (by (repeat (first | with_reducible assumption | (with_reducible apply Blk.new_at; (first | rfl | (simp; done))) | with_reducible apply Blk.store3 | with_reducible apply Blk.store4 | (with_reducible apply Blk.farp; (first | omega | (simp <;> omega))) | with_reducible apply Blk.allocp | with_reducible apply Blk.drew | with_reducible apply Blk.drewN))) hB1; have cR1 := hR1.cell; have fR1 := hR1.frozen; have lR1 := hR1.lt; have mR1 := Nat.ne_of_gt lR1; have nR1 := Nat.ne_of_lt lR1) | (go_at_call 48; (with_reducible refine (hPr.out _).mono ?_); rintro e v2 ⟨rfl, hB2⟩; have hZ2 := hB2.size; (try simp at hZ2); (try have zl2 : w.heap.size < v2.heap.size := by omega); (try have ze2 : w.heap.size ≤ v2.heap.size := by omega); (try have zn2 : ¬ w.heap.size = v2.heap.size := by omega); (try have zm2 : ¬ v2.heap.size = w.heap.size := by omega); have hR2 : Blk v2 (w.heap.size) 25 #[.int .i64 0, .int .i64 0, .int .i64 0] := Blk.call (by (repeat (first | with_reducible assumption | (with_reducible apply Blk.new_at; (first | rfl | (simp; done))) | with_reducible apply Blk.store3 | with_reducible apply Blk.store4 | (with_reducible apply Blk.farp; (first | omega | (simp <;> omega))) | with_reducible apply Blk.allocp | with_reducible apply Blk.drew | with_reducible apply Blk.drewN))) hB2; have cR2 := hR2.cell; have fR2 := hR2.frozen; have lR2 := hR2.lt; have mR2 := Nat.ne_of_gt lR2; have nR2 := Nat.ne_of_lt lR2) | (go_at_call 31; (with_reducible refine (hVa.out _).mono ?_); rintro e v3 ⟨rfl, hB3⟩; have hZ3 := hB3.size; (try simp at hZ3); (try have zl3 : w.heap.size < v3.heap.size := by omega); (try have ze3 : w.heap.size ≤ v3.heap.size := by omega); (try have zn3 : ¬ w.heap.size = v3.heap.size := by omega); (try have zm3 : ¬ v3.heap.size = w.heap.size := by omega); have hR3 : Blk v3 (w.heap.size) 25 #[.int .i64 0, .int .i64 0, .int .i64 0] := Blk.call (by (repeat (first | with_reducible assumption | (with_reducible apply Blk.new_at; (first | rfl | (simp; done))) | with_reducible apply Blk.store3 | with_reducible apply Blk.store4 | (with_reducible apply Blk.farp; (first | omega | (simp <;> omega))) | with_reducible apply Blk.allocp | with_reducible apply Blk.drew | with_reducible apply Blk.drewN))) hB3; have cR3 := hR3.cell; have fR3 := hR3.frozen; have lR3 := hR3.lt; have mR3 := Nat.ne_of_gt lR3; have nR3 := Nat.ne_of_lt lR3))
    exact bodyPost_ret (v := .tuple #[.agg #[.int .i64 e, .int .i64 a, .int .i64 b], .bool true]) (by simp [results, Tryz.results19, go_sem, *]) rfl ⟨rfl, (by repeat (first | with_reducible exact Below.refl _ _ | with_reducible assumption | with_reducible apply Below.drew | with_reducible apply below_drewN | (with_reducible apply below_setp; (first | omega | (simp <;> omega))) | (with_reducible apply below_allocp; (first | omega | (simp <;> omega))) | (with_reducible refine below_viap (by assumption) ?_ ?_; (first | omega | (simp <;> omega)))))⟩
end
end Go.Proofs.YtohgccgbbipjjaaGreat
