/- Parts EA EB EC ED EE EF laid together by tp.py. -/
import Derived.Test.YtblcmkhkbgikoaaGreatCA
import Derived.Test.YtblcmkhkbgikoaaGreatEP
import Derived.Test.YtblcmkhkbgikoaaGreatN5
import Derived.Test.YtblcmkhkbgikoaaGreatW4
import Derived.Test.YtblcmkhkbgikoaaGreatUB
import Derived.Test.YtblcmkhkbgikoaaGreatGU
import Derived.Test.YtblcmkhkbgikoaaGreatK7
namespace Go.Proofs.YtblcmkhkbgikoaaGreat
section
open Go.RowKit

/-- The greatest number whose square is at most n. -/
def rtN : Nat → Nat
  | 0 => 0
  | n + 1 => if (rtN n + 1) * (rtN n + 1) ≤ n + 1 then rtN n + 1 else rtN n
theorem rtN_spec : ∀ n, rtN n * rtN n ≤ n ∧ n < (rtN n + 1) * (rtN n + 1)
  | 0 => by decide
  | n + 1 => by
    obtain ⟨h1, h2⟩ := rtN_spec n
    unfold rtN
    split
    · rename_i h
      refine ⟨h, ?_⟩
      have e : (rtN n + 1 + 1) * (rtN n + 1 + 1) = (rtN n + 1) * (rtN n + 1) + 2 * (rtN n + 1) + 1 := by grind
      omega
    · rename_i h
      omega
noncomputable def rt (n : Int) : Int := (rtN n.toNat : Int)
theorem rt_spec {n : Int} (h : 0 ≤ n) : 0 ≤ rt n ∧ rt n * rt n ≤ n ∧ n < (rt n + 1) * (rt n + 1) := by
  obtain ⟨h1, h2⟩ := rtN_spec n.toNat
  unfold rt
  have e1 : ((rtN n.toNat * rtN n.toNat : Nat) : Int) ≤ (n.toNat : Int) := by omega
  have e2 : (n.toNat : Int) < (((rtN n.toNat + 1) * (rtN n.toNat + 1) : Nat) : Int) := by omega
  rw [Int.toNat_of_nonneg h] at e1 e2
  rw [Int.natCast_mul] at e1 e2
  rw [Int.natCast_add] at e2
  exact ⟨by omega, e1, e2⟩
theorem rt_cmp {n m : Int} (h : 0 ≤ n) (hm : 0 ≤ m) : m * m ≤ n ↔ m ≤ rt n := by
  obtain ⟨h1, h2, h3⟩ := rt_spec h
  constructor
  · intro hmn
    apply Int.not_lt.1
    intro hlt
    have := Int.mul_le_mul (show rt n + 1 ≤ m by omega) (show rt n + 1 ≤ m by omega) (by omega) hm
    omega
  · intro hle
    have := Int.mul_le_mul hle hle hm h1
    omega
theorem rt_uniq {n r : Int} (hr : 0 ≤ r) (h : r * r = n) : rt n = r := by
  have hn : 0 ≤ n := by rw [← h]; exact Int.mul_nonneg hr hr
  have h1 := (rt_cmp hn hr).1 (by omega)
  obtain ⟨h2, h3, _⟩ := rt_spec hn
  have : rt n ≤ r := by
    apply Int.not_lt.1
    intro hlt
    have := Int.mul_le_mul (show r + 1 ≤ rt n by omega) (show r + 1 ≤ rt n by omega) (by omega) h2
    have e : (r + 1) * (r + 1) = r * r + 2 * r + 1 := by grind
    omega
  omega
def RtSt (R : Int) (v3 v4 : Value) : Prop := ∃ l h : Int, v3 = .int .i64 l ∧ v4 = .int .i64 h ∧ 0 ≤ l ∧ l ≤ R ∧ R ≤ h ∧ h ≤ 3000000000

set_option maxRecDepth 100000 in
set_option maxHeartbeats 1600000 in
theorem root_any (n : Int) (w : World) (h0 : 0 ≤ n) (h1 : n ≤ 1000000000000) : Calls Tryz.prog 54 #[.int .i64 n] w fun e w' => e = .returned (.int .i64 (rt n)) ∧ w = w' := by
  have hR := rt_spec h0
  have hc := Lib.hid (fun m (hm : 0 ≤ m) => rt_cmp (n := n) (m := m) h0 hm)
  have hb : rt n ≤ 1000000 := by
    apply Int.not_lt.1
    intro hlt
    have := Int.mul_le_mul (show (1000001 : Int) ≤ rt n by omega) (show (1000001 : Int) ≤ rt n by omega) (by omega) (by omega)
    omega
  obtain ⟨R, hRe⟩ : ∃ R, rt n = R := ⟨_, rfl⟩
  rw [hRe] at hc hb hR ⊢
  have r0 := hR.1
  clear hRe hR
  go_enter Tryz.func54, Tryz.ntmps54
  go_wp2
  go_loop [3, 4] (fun v3 v4 => RtSt R v3 v4) (fun v3 v4 => (intOf v4 - intOf v3).toNat)
  case atStart => exact ⟨0, 3000000000, rfl, rfl, by omega, r0, by omega, by omega⟩
  case round =>
    obtain ⟨l, h, rfl, rfl, l0, lR, hR, hh⟩ := hrel
    by_cases hlt : l < h
    · obtain ⟨m, hm⟩ : ∃ m, (l + h + 1) / 2 = m := ⟨_, rfl⟩
      have ht : (l + h + 1).tdiv 2 = m := by rw [Int.tdiv_eq_ediv_of_nonneg (by omega)]; exact hm
      have m1 : l < m := by omega
      have m2 : m ≤ h := by omega
      have hw0 : wrap64 (l + h) = l + h := IntWalk.wrap64_in _ (by omega)
      have hw1 : wrap64 (l + h + 1) = l + h + 1 := IntWalk.wrap64_in _ (by omega)
      have hw2 : wrap64 m = m := IntWalk.wrap64_in _ (by omega)
      have q1 : 0 ≤ m * m := Int.mul_nonneg (by omega) (by omega)
      have q2 : m * m ≤ 3000000000 * 3000000000 := Int.mul_le_mul (by omega) (by omega) (by omega) (by omega)
      have hw3 : wrap64 (m * m) = m * m := IntWalk.wrap64_in _ (by omega)
      have hcm := hc.out m (by omega)
      clear hm
      by_cases hle : m * m ≤ n
      · have hmR := hcm.1 hle
        clear hcm
        go_wp2
        go_round
        case rel => exact ⟨m, h, rfl, rfl, by omega, hmR, hR, hh⟩
        case measure => simp [intOf]; omega
      · have hmR : R < m := by apply Int.not_le.1; intro hx; exact hle (hcm.2 hx)
        have hld : decide (m * m ≤ n) = false := decide_eq_false hle
        have hw4 : wrap64 (m - 1) = m - 1 := IntWalk.wrap64_in _ (by omega)
        clear hcm
        go_wp2
        go_round
        case rel => exact ⟨l, m - 1, rfl, rfl, l0, lR, by omega, by omega⟩
        case measure => simp [intOf]; omega
    · have e : l = R := by omega
      subst e
      have hld : decide (l < h) = false := decide_eq_false hlt
      go_wp2
      go_ret
      exact ⟨rfl, rfl⟩
/-- Whether n is a square. -/
noncomputable def sqB (n : Int) : Bool := decide (0 ≤ n) && decide (rt n * rt n = n)
set_option maxHeartbeats 800000 in
theorem isSquare_any (n : Int) (w : World) (h1 : n ≤ 1000000000000) : Calls Tryz.prog 55 #[.int .i64 n] w fun e w' => e = .returned (.bool (sqB n)) ∧ w = w' := by
  unfold sqB
  by_cases h0 : 0 ≤ n
  · have hR := Lib.hid (fun w => root_any n w h0 h1)
    obtain ⟨r0, r1, _⟩ := rt_spec h0
    have hw : wrap64 (rt n * rt n) = rt n * rt n := IntWalk.wrap64_in _ (by have := Int.mul_nonneg r0 r0; omega)
    rw [decide_eq_true h0, Bool.true_and]
    generalize rt n = r at *
    go_enter Tryz.func55, Tryz.ntmps55
    go_wp2_with (go_at_call 54; (with_reducible refine (hR.out _).mono ?_); rintro e v ⟨rfl, rfl⟩)
    go_ret
    exact ⟨ret_bool (by first | rfl | (rw [Bool.eq_iff_iff, beq_iff_eq, decide_eq_true_iff, hw]) | (rw [Bool.eq_iff_iff, beq_iff_eq, decide_eq_true_iff])), rfl⟩
  · have hd : decide (0 ≤ n) = false := decide_eq_false h0
    rw [hd, Bool.false_and]
    go_enter Tryz.func55, Tryz.ntmps55
    go_wp2
    go_ret
    exact ⟨rfl, rfl⟩
end

section
open Go.RowKit

/-- The points at one x. -/
noncomputable def ptA (b c r x : Int) : List (Int × Int) := if (-b * x - r).tmod (2 * c) = 0 then [(x, (-b * x - r).tdiv (2 * c))] else []
noncomputable def ptB (b c r x : Int) : List (Int × Int) := if 0 < r ∧ (-b * x + r).tmod (2 * c) = 0 then [(x, (-b * x + r).tdiv (2 * c))] else []
noncomputable def ptAt (d b c n x : Int) : List (Int × Int) := if sqB (d * x * x + 4 * c * n) then ptA b c (rt (d * x * x + 4 * c * n)) x ++ ptB b c (rt (d * x * x + 4 * c * n)) x else []
/-- The points at the first k values of x, from -m on. -/
noncomputable def ptsK (d b c n m : Int) (k : Nat) : List (Int × Int) := (List.range k).flatMap fun i : Nat => ptAt d b c n (-m + (i : Int))
theorem ptsK_next (d b c n m : Int) (k : Nat) : ptsK d b c n m (k + 1) = ptsK d b c n m k ++ ptAt d b c n (-m + k) := by unfold ptsK; rw [List.range_succ, List.flatMap_append]; simp
theorem ptA_len (b c r x : Int) : (ptA b c r x).length ≤ 1 := by unfold ptA; split <;> simp
theorem ptB_len (b c r x : Int) : (ptB b c r x).length ≤ 1 := by unfold ptB; split <;> simp
theorem ptAt_len (d b c n x : Int) : (ptAt d b c n x).length ≤ 2 := by
  unfold ptAt
  split
  · have h1 := ptA_len b c (rt (d * x * x + 4 * c * n)) x
    have h2 := ptB_len b c (rt (d * x * x + 4 * c * n)) x
    rw [List.length_append]; omega
  · simp
theorem ptsK_len (d b c n m : Int) : ∀ k, (ptsK d b c n m k).length ≤ 2 * k
  | 0 => by simp [ptsK]
  | k + 1 => by
    rw [ptsK_next, List.length_append]
    have h1 := ptsK_len d b c n m k
    have h2 := ptAt_len d b c n (-m + k)
    omega
/-- The greatest x. -/
noncomputable def ptM (d c n : Int) : Int := rt ((4 * c * n).tdiv (-d))
def RetP (L : List (Int × Int)) (w : World) (e : Ending) (w' : World) : Prop := ∃ v, e = .returned v ∧ w'.ownsRow w.heap.size 51 2 v L.length (cellsP L) ∧ Below w.heap.size w w'
def PtSt (d b c n m : Int) (f : Array Value) (w : World) (v5 v8 : Value) (wr : World) : Prop :=
  ∃ k : Nat, v8 = .int .i64 (-m + k) ∧ (k : Int) ≤ 2 * m + 1 ∧ wr.ownsRow (w.heap.size + 1) 51 2 v5 (ptsK d b c n m k).length (cellsP (ptsK d b c n m k)) ∧ Blk wr w.heap.size 36 f ∧ w.heap.size < wr.heap.size ∧ Below w.heap.size w wr

set_option maxRecDepth 100000 in
set_option maxHeartbeats 12800000 in
theorem points_any (a b c e n : Int) (r : Fm) (w : World) (cf : CF (-e) ⟨a, b, c⟩ r) (hb : -100 ≤ b ∧ b ≤ 100) (hc : 1 ≤ c ∧ c ≤ 2000) (hn : 1 ≤ n ∧ n ≤ 10000) :
    Calls Tryz.prog 29 #[.agg #[.int .i64 a, .int .i64 b, .int .i64 c], .int .i64 n] w (RetP (ptsK (-e) b c n (ptM (-e) c n) (2 * ptM (-e) c n + 1).toNat) w) := by
  obtain ⟨i0, hi, hz0, hz1, hz2⟩ := info_parts infoPt
  have D := cf.D
  have d1 := D.lo; have d2 := D.hi
  have hDc := Lib.hid (fun w => disc_cf (-e) ⟨a, b, c⟩ r w cf)
  dsimp only at hDc
  have q1 : 4 ≤ 4 * c * n := by have := Int.mul_le_mul (show (4 : Int) ≤ 4 * c by omega) hn.1 (by omega) (by omega); omega
  have q2 : 4 * c * n ≤ 80000000 := by have := Int.mul_le_mul (show 4 * c ≤ 8000 by omega) hn.2 (by omega) (by omega); omega
  have q3 : 0 ≤ (4 * c * n).tdiv e := by rw [Int.tdiv_eq_ediv_of_nonneg (by omega)]; exact Int.ediv_nonneg (by omega) (by omega)
  have q4 : (4 * c * n).tdiv e ≤ 80000000 := by rw [Int.tdiv_eq_ediv_of_nonneg (by omega)]; have := Int.ediv_le_self e (show 0 ≤ 4 * c * n by omega); omega
  have hRt := Lib.hid (fun w => root_any ((4 * c * n).tdiv e) w q3 (by omega))
  have hM := rt_spec q3
  obtain ⟨m, hm⟩ : ∃ m, ptM (-e) c n = m := ⟨_, rfl⟩
  have hm' : rt ((4 * c * n).tdiv e) = m := by unfold ptM at hm; rw [Int.neg_neg] at hm; exact hm
  rw [hm'] at hRt hM
  rw [hm]
  have m0 := hM.1
  have mb : m ≤ 9000 := by
    apply Int.not_lt.1
    intro hlt
    have := Int.mul_le_mul (show (9001 : Int) ≤ m by omega) (show (9001 : Int) ≤ m by omega) (by omega) (by omega)
    omega
  have hw0 : wrap64 (4 * c) = 4 * c := IntWalk.wrap64_in _ (by omega)
  have hw1 : wrap64 (4 * c * n) = 4 * c * n := IntWalk.wrap64_in _ (by omega)
  have hw2 : wrap64 e = e := IntWalk.wrap64_in _ (by omega)
  have hw3 : wrap64 ((4 * c * n).tdiv e) = (4 * c * n).tdiv e := IntWalk.wrap64_in _ (by omega)
  have hw5 : wrap64 (-m) = -m := IntWalk.wrap64_in _ (by omega)
  have hw6 : wrap64 (-b) = -b := IntWalk.wrap64_in _ (by omega)
  have hw7 : wrap64 (2 * c) = 2 * c := IntWalk.wrap64_in _ (by omega)
  have hd0 : ¬ e = 0 := by omega
  have hc0 : ¬ 2 * c = 0 := by omega
  have e1 : 3 ≤ e := by omega
  have e2 : e ≤ 2000 := by omega
  clear hm hm' hM cf D d1 d2
  go_enter Tryz.func29, Tryz.ntmps29
  go_wp2_with (first
    | (go_at_call 42; (with_reducible refine (hDc.out _).mono ?_); rintro e v1 ⟨rfl, hB1⟩; have hZ1 := hB1.size; (try simp at hZ1); (try have zl1 : w.heap.size < v1.heap.size := by omega); (try have ze1 : w.heap.size ≤ v1.heap.size := by omega); (try have zn1 : ¬ w.heap.size = v1.heap.size := by omega); (try have zm1 : ¬ v1.heap.size = w.heap.size := by omega); have hA1 : Blk v1 (w.heap.size) 36 #[.int .i64 a, .int .i64 b, .int .i64 c] := Blk.call (by (repeat (first | with_reducible assumption | (with_reducible apply Blk.new_at; (first | rfl | (simp; done))) | with_reducible apply Blk.store3 | with_reducible apply Blk.store4 | (with_reducible apply Blk.farp; (first | omega | (simp <;> omega))) | with_reducible apply Blk.allocp | with_reducible apply Blk.drew | with_reducible apply Blk.drewN))) hB1; have cA1 := hA1.cell; have fA1 := hA1.frozen; have lA1 := hA1.lt; have mA1 := Nat.ne_of_gt lA1; have nA1 := Nat.ne_of_lt lA1)
    | (go_at_call 54; (with_reducible refine (hRt.out _).mono ?_); rintro e v ⟨rfl, rfl⟩))
  have hown0 : v1.ownsRow (w.heap.size + 1) 51 2 (.slice (some ⟨w.heap.size + 1, 0, none⟩) 0 0) 0 [] := by
    have h := own_empty (w := w.alloc (.cells #[.int .i64 a, .int .i64 b, .int .i64 c] 36)) (B := w.heap.size + 1) (e := 51) (sz := 2) (by simp)
    simp at h
    exact own_call hB1 h
  have hbel0 : Below w.heap.size w v1 := (by repeat (first | with_reducible exact Below.refl _ _ | with_reducible assumption | with_reducible apply Below.drew | with_reducible apply below_drewN | (with_reducible apply below_setp; (first | omega | (simp <;> omega))) | (with_reducible apply below_allocp; (first | omega | (simp <;> omega))) | (with_reducible refine below_viap (by assumption) ?_ ?_; (first | omega | (simp <;> omega)))))
  go_loopw [5, 8] (fun v5 v8 wr => PtSt (-e) b c n m #[.int .i64 a, .int .i64 b, .int .i64 c] w v5 v8 wr) (fun _ v8 _ => (m + 1 - intOf v8).toNat)
  case atStart => exact ⟨0, by simp, by omega, hown0, hA1, by omega, hbel0⟩
  case round =>
    clear hown0 hbel0 cA1 fA1 hA1
    obtain ⟨k, rfl, hk, hown, hA, hsz, hbel⟩ := hrel
    have hz := hbel.size
    have cA := hA.cell; have fA := hA.frozen; have lA := hA.lt
    have hnx := Lib.hid (ptsK_next (-e) b c n m k)
    have hql : (ptsK (-e) b c n m k).length ≤ 100000 := by have := ptsK_len (-e) b c n m k; omega
    obtain ⟨x, hx⟩ : ∃ x : Int, -m + k = x := ⟨_, rfl⟩
    have hkN := Lib.hid (show -m + ((k + 1 : Nat) : Int) = x + 1 by omega)
    rw [hx] at hnx ⊢
    by_cases hle : x ≤ m
    · have xb1 : -9000 ≤ x := by omega
      have hxx0 : 0 ≤ x * x := by rcases Int.le_total 0 x with h | h; exact Int.mul_nonneg h h; exact Int.mul_nonneg_of_nonpos_of_nonpos h h
      have hxx1 : x * x ≤ 81000000 := by
        rcases Int.le_total 0 x with h | h
        · exact Int.mul_le_mul (show x ≤ 9000 by omega) (show x ≤ 9000 by omega) h (by omega)
        · have := Int.mul_le_mul (show -x ≤ 9000 by omega) (show -x ≤ 9000 by omega) (by omega) (by omega)
          rw [Int.neg_mul_neg] at this; exact this
      have hex0 : 0 ≤ e * (x * x) := Int.mul_nonneg (by omega) hxx0
      have hex1 : e * (x * x) ≤ 2000 * 81000000 := Int.mul_le_mul e2 hxx1 hxx0 (by omega)
      have hxe : -18000000 ≤ e * x ∧ e * x ≤ 18000000 := by
        rcases Int.le_total 0 x with h | h
        · have h1 := Int.mul_nonneg (show 0 ≤ e by omega) h
          have h2 := Int.mul_le_mul e2 (show x ≤ 9000 by omega) h (by omega)
          omega
        · have h1 := Int.mul_nonneg (show 0 ≤ e by omega) (show 0 ≤ -x by omega)
          have h2 := Int.mul_le_mul e2 (show -x ≤ 9000 by omega) (show 0 ≤ -x by omega) (by omega)
          rw [Int.mul_neg] at h1 h2
          omega
      have hbx : -900000 ≤ b * x ∧ b * x ≤ 900000 := by
        have h1 : (b * x).natAbs = b.natAbs * x.natAbs := Int.natAbs_mul _ _
        have h2 := Nat.mul_le_mul (show b.natAbs ≤ 100 by omega) (show x.natAbs ≤ 9000 by omega)
        omega
      have hxa : e * x * x = e * (x * x) := Int.mul_assoc _ _ _
      have hne : -e * x = -(e * x) := Int.neg_mul _ _
      have hne2 : -e * x * x = -(e * x * x) := by rw [Int.neg_mul, Int.neg_mul]
      have hnb : -b * x = -(b * x) := Int.neg_mul _ _
      have hwa : wrap64 (-e * x) = -e * x := IntWalk.wrap64_in _ (by omega)
      have hwb : wrap64 (-e * x * x) = -e * x * x := IntWalk.wrap64_in _ (by omega)
      have hwc : wrap64 (-e * x * x + 4 * c * n) = -e * x * x + 4 * c * n := IntWalk.wrap64_in _ (by omega)
      have hwy : wrap64 (-b * x) = -b * x := IntWalk.wrap64_in _ (by omega)
      have hwx : wrap64 (x + 1) = x + 1 := IntWalk.wrap64_in _ (by omega)
      obtain ⟨S, hS⟩ : ∃ S, -e * x * x + 4 * c * n = S := ⟨_, rfl⟩
      have hpt : ptAt (-e) b c n x = if sqB S then ptA b c (rt S) x ++ ptB b c (rt S) x else [] := by
        unfold ptAt
        rw [hS]
      have hSb : S ≤ 80000000 := by omega
      have hyb : -900000 ≤ -b * x ∧ -b * x ≤ 900000 := by omega
      have hIs := Lib.hid (fun w => isSquare_any S w (by omega))
      rw [hpt] at hnx
      have hwc2 : wrap64 (-e * x * x + 4 * c * n) = S := hwc.trans hS
      clear hpt hxx0 hxx1 hex0 hex1 hxe hxa hS q1 q2 q3 q4 hDc hRt hne hne2 hnb hbx hwc
      have hlx : (decide (x ≤ m)) = true := decide_eq_true hle
      cases hsq : sqB S with
      | false =>
        rw [hsq] at hIs hnx
        have Hnx : Hid (ptsK (-e) b c n m (k + 1) = ptsK (-e) b c n m k) := Lib.hid (by rw [hnx.out]; simp)
        clear hnx hsq
        go_wp2_with (go_at_call 55; (with_reducible refine (hIs.out _).mono ?_); rintro e v ⟨rfl, rfl⟩)
        go_roundw
        case rel => exact ⟨k + 1, by rw [hkN.out], by omega, by rw [Hnx.out]; exact hown, hA, hsz, hbel⟩
        case measure => simp [intOf]; omega
      | true =>
        rw [hsq] at hIs hnx
        have hS0 : 0 ≤ S := by unfold sqB at hsq; rw [Bool.and_eq_true] at hsq; exact of_decide_eq_true hsq.1
        have hRo := Lib.hid (fun w => root_any S w hS0 (by omega))
        have hr := rt_spec hS0
        rw [if_pos rfl] at hnx
        have hr1 : rt S ≤ 10000 := by
          apply Int.not_lt.1
          intro hlt
          have := Int.mul_le_mul (show (10001 : Int) ≤ rt S by omega) (show (10001 : Int) ≤ rt S by omega) (by omega) (by omega)
          omega
        have hr0 := hr.1
        generalize rt S = r at *
        have hwu : wrap64 (-b * x - r) = -b * x - r := IntWalk.wrap64_in _ (by omega)
        have hwv : wrap64 (-b * x + r) = -b * x + r := IntWalk.wrap64_in _ (by omega)
        clear hr hsq
        obtain ⟨P, hP⟩ : ∃ P, ptsK (-e) b c n m k = P := ⟨_, rfl⟩
        rw [hP] at hnx hown hql
        have HP := Lib.hid hP
        clear hP
        have htd1 : ∀ y : Int, -1000000 ≤ y ∧ y ≤ 1000000 → wrap64 (y.tdiv (2 * c)) = y.tdiv (2 * c) := fun y hy => by
          have h1 := Int.natAbs_tdiv_le_natAbs y (2 * c)
          exact IntWalk.wrap64_in _ (by omega)
        have hwU := htd1 (-b * x - r) (by omega)
        have hwV := htd1 (-b * x + r) (by omega)
        clear htd1
        by_cases hA1 : (-b * x - r).tmod (2 * c) = 0
        · have hAe : ptA b c r x = [(x, (-b * x - r).tdiv (2 * c))] := by unfold ptA; rw [if_pos hA1]
          rw [hAe] at hnx
          clear hAe
          generalize hyu : (-b * x - r).tdiv (2 * c) = yu at *
          by_cases hr2 : 0 < r
          · by_cases hB1v : (-b * x + r).tmod (2 * c) = 0
            · have hBe : ptB b c r x = [(x, (-b * x + r).tdiv (2 * c))] := by unfold ptB; rw [if_pos ⟨hr2, hB1v⟩]
              rw [hBe] at hnx
              clear hBe
              generalize hyv : (-b * x + r).tdiv (2 * c) = yv at *
              go_wp2_with (first | (go_at_call 55; (with_reducible refine (hIs.out _).mono ?_); rintro e v ⟨rfl, rfl⟩) | (go_at_call 54; (with_reducible refine (hRo.out _).mono ?_); rintro e v ⟨rfl, rfl⟩) | (at_builtin; refine wpList_append_own_at _ rfl (.tmp 58) (.tmp 72) 39 rfl (w.heap.size + 1) 51 i0 _ 2 16 Tryz.underlying39 hi hz0 hz1 hz2 rfl (by decide) u5 P.length (cellsP P) rfl ?_ ⟨wr.heap.size, 0, none⟩ 1 1 [.int .i64 x, .int .i64 yu] rfl rfl ?_ (one2 _ _) ?_ ?_ ?_ ?_; exact (by repeat (first | with_reducible assumption | with_reducible apply own_alloc | with_reducible apply own_drew | with_reducible apply own_drewN | (with_reducible refine own_setp (by assumption) ?_ ?_; (first | omega | (simp <;> omega))) | (with_reducible refine own_call (by assumption) ?_))); exact cells2 (Blk.new_at (by simp)); (unfold maxLen; omega); omega; (simp; omega); intro x8 w8 hown8 hg8 _ hloc8; have hA8 : Blk w8 w.heap.size 36 #[.int .i64 a, .int .i64 b, .int .i64 c] := Blk.grown (by (repeat (first | with_reducible assumption | (with_reducible apply Blk.new_at; (first | rfl | (simp; done))) | with_reducible apply Blk.store3 | with_reducible apply Blk.store4 | (with_reducible apply Blk.farp; (first | omega | (simp <;> omega))) | with_reducible apply Blk.allocp | with_reducible apply Blk.drew | with_reducible apply Blk.drewN))) hg8 (fun he => by have := own_ge hown _ he.symm; omega); have cA8 := hA8.cell; have fA8 := hA8.frozen; have lA8 := hA8.lt; have hz8 := hg8.size; simp at hz8; have ho8 := own_snocP (p := (x, yu)) (L := P) rfl hown8; have hPl : (P ++ [(x, yu)]).length ≤ 100001 := (by rw [List.length_append]; simp; omega)) | (at_builtin; refine wpList_append_own_at _ rfl (.tmp 90) (.tmp 104) 39 rfl (w.heap.size + 1) 51 i0 _ 2 16 Tryz.underlying39 hi hz0 hz1 hz2 rfl (by decide) x8 (P ++ [(x, yu)]).length (cellsP (P ++ [(x, yu)])) rfl ?_ ⟨w8.heap.size, 0, none⟩ 1 1 [.int .i64 x, .int .i64 yv] rfl rfl ?_ (one2 _ _) ?_ ?_ ?_ ?_; exact own_alloc ho8; exact cells2 (Blk.new_at (by simp)); (unfold maxLen; omega); omega; (simp; omega); intro x9 w9 hown9 hg9 _ hloc9))
              have hb8 : Below w.heap.size w w8 := below_grown (fun q hq => by have := own_ge hown q hq; omega) (by simp; omega) hg8 (by repeat (first | with_reducible exact Below.refl _ _ | with_reducible assumption | with_reducible apply Below.drew | with_reducible apply below_drewN | (with_reducible apply below_setp; (first | omega | (simp <;> omega))) | (with_reducible apply below_allocp; (first | omega | (simp <;> omega))) | (with_reducible refine below_viap (by assumption) ?_ ?_; (first | omega | (simp <;> omega)))))
              clear hown8 hg8 hloc8
              have hz9 := hg9.size
              simp at hz9
              have ho9 := own_snocP (p := (x, yv)) (L := P ++ [(x, yu)]) (K := ptsK (-e) b c n m (k + 1)) (by rw [hnx.out]; simp) hown9
              have hb9 : Below w.heap.size w w9 := below_grown (fun q hq => by have := own_ge ho8 q hq; omega) (by simp; omega) hg9 (by repeat (first | with_reducible exact Below.refl _ _ | with_reducible assumption | with_reducible apply Below.drew | with_reducible apply below_drewN | (with_reducible apply below_setp; (first | omega | (simp <;> omega))) | (with_reducible apply below_allocp; (first | omega | (simp <;> omega))) | (with_reducible refine below_viap (by assumption) ?_ ?_; (first | omega | (simp <;> omega)))))
              have hA9 : Blk w9 w.heap.size 36 #[.int .i64 a, .int .i64 b, .int .i64 c] := Blk.grown (by (repeat (first | with_reducible assumption | (with_reducible apply Blk.new_at; (first | rfl | (simp; done))) | with_reducible apply Blk.store3 | with_reducible apply Blk.store4 | (with_reducible apply Blk.farp; (first | omega | (simp <;> omega))) | with_reducible apply Blk.allocp | with_reducible apply Blk.drew | with_reducible apply Blk.drewN))) hg9 (fun he => by have := own_ge ho8 _ he.symm; omega)
              go_wp2
              exact ⟨⟨k + 1, by rw [hkN.out], by omega, ho9, hA9, by omega, hb9⟩, by simp [intOf]; omega⟩
            · have hB2v : ((-b * x + r).tmod (2 * c) == 0) = false := by rw [beq_eq_false_iff_ne]; exact hB1v
              have hBe : ptB b c r x = [] := by unfold ptB; rw [if_neg (fun h => hB1v h.2)]
              have Hnx : Hid (ptsK (-e) b c n m (k + 1) = P ++ [(x, yu)]) := Lib.hid (by rw [hnx.out, hBe]; simp)
              clear hnx hBe
              go_wp2_with (first | (go_at_call 55; (with_reducible refine (hIs.out _).mono ?_); rintro e v ⟨rfl, rfl⟩) | (go_at_call 54; (with_reducible refine (hRo.out _).mono ?_); rintro e v ⟨rfl, rfl⟩) | (at_builtin; refine wpList_append_own_at _ rfl (.tmp 58) (.tmp 72) 39 rfl (w.heap.size + 1) 51 i0 _ 2 16 Tryz.underlying39 hi hz0 hz1 hz2 rfl (by decide) u5 P.length (cellsP P) rfl ?_ ⟨wr.heap.size, 0, none⟩ 1 1 [.int .i64 x, .int .i64 yu] rfl rfl ?_ (one2 _ _) ?_ ?_ ?_ ?_; exact (by repeat (first | with_reducible assumption | with_reducible apply own_alloc | with_reducible apply own_drew | with_reducible apply own_drewN | (with_reducible refine own_setp (by assumption) ?_ ?_; (first | omega | (simp <;> omega))) | (with_reducible refine own_call (by assumption) ?_))); exact cells2 (Blk.new_at (by simp)); (unfold maxLen; omega); omega; (simp; omega); intro x8 w8 hown8 hg8 _ hloc8; have hA8 : Blk w8 w.heap.size 36 #[.int .i64 a, .int .i64 b, .int .i64 c] := Blk.grown (by (repeat (first | with_reducible assumption | (with_reducible apply Blk.new_at; (first | rfl | (simp; done))) | with_reducible apply Blk.store3 | with_reducible apply Blk.store4 | (with_reducible apply Blk.farp; (first | omega | (simp <;> omega))) | with_reducible apply Blk.allocp | with_reducible apply Blk.drew | with_reducible apply Blk.drewN))) hg8 (fun he => by have := own_ge hown _ he.symm; omega); have cA8 := hA8.cell; have fA8 := hA8.frozen; have lA8 := hA8.lt; have hz8 := hg8.size; simp at hz8; have ho8 := own_snocP (p := (x, yu)) (L := P) rfl hown8; have hPl : (P ++ [(x, yu)]).length ≤ 100001 := (by rw [List.length_append]; simp; omega)))
              have hb8 : Below w.heap.size w w8 := below_grown (fun q hq => by have := own_ge hown q hq; omega) (by simp; omega) hg8 (by repeat (first | with_reducible exact Below.refl _ _ | with_reducible assumption | with_reducible apply Below.drew | with_reducible apply below_drewN | (with_reducible apply below_setp; (first | omega | (simp <;> omega))) | (with_reducible apply below_allocp; (first | omega | (simp <;> omega))) | (with_reducible refine below_viap (by assumption) ?_ ?_; (first | omega | (simp <;> omega)))))
              clear hown8 hg8 hloc8
              go_wp2
              exact ⟨⟨k + 1, by rw [hkN.out], by omega, by rw [Hnx.out]; exact ho8, hA8, by omega, hb8⟩, by simp [intOf]; omega⟩
          · have hr3 : decide (0 < r) = false := decide_eq_false hr2
            have hBe : ptB b c r x = [] := by unfold ptB; rw [if_neg (fun h => hr2 h.1)]
            have Hnx : Hid (ptsK (-e) b c n m (k + 1) = P ++ [(x, yu)]) := Lib.hid (by rw [hnx.out, hBe]; simp)
            clear hnx hBe
            go_wp2_with (first | (go_at_call 55; (with_reducible refine (hIs.out _).mono ?_); rintro e v ⟨rfl, rfl⟩) | (go_at_call 54; (with_reducible refine (hRo.out _).mono ?_); rintro e v ⟨rfl, rfl⟩) | (at_builtin; refine wpList_append_own_at _ rfl (.tmp 58) (.tmp 72) 39 rfl (w.heap.size + 1) 51 i0 _ 2 16 Tryz.underlying39 hi hz0 hz1 hz2 rfl (by decide) u5 P.length (cellsP P) rfl ?_ ⟨wr.heap.size, 0, none⟩ 1 1 [.int .i64 x, .int .i64 yu] rfl rfl ?_ (one2 _ _) ?_ ?_ ?_ ?_; exact (by repeat (first | with_reducible assumption | with_reducible apply own_alloc | with_reducible apply own_drew | with_reducible apply own_drewN | (with_reducible refine own_setp (by assumption) ?_ ?_; (first | omega | (simp <;> omega))) | (with_reducible refine own_call (by assumption) ?_))); exact cells2 (Blk.new_at (by simp)); (unfold maxLen; omega); omega; (simp; omega); intro x8 w8 hown8 hg8 _ hloc8; have hA8 : Blk w8 w.heap.size 36 #[.int .i64 a, .int .i64 b, .int .i64 c] := Blk.grown (by (repeat (first | with_reducible assumption | (with_reducible apply Blk.new_at; (first | rfl | (simp; done))) | with_reducible apply Blk.store3 | with_reducible apply Blk.store4 | (with_reducible apply Blk.farp; (first | omega | (simp <;> omega))) | with_reducible apply Blk.allocp | with_reducible apply Blk.drew | with_reducible apply Blk.drewN))) hg8 (fun he => by have := own_ge hown _ he.symm; omega); have cA8 := hA8.cell; have fA8 := hA8.frozen; have lA8 := hA8.lt; have hz8 := hg8.size; simp at hz8; have ho8 := own_snocP (p := (x, yu)) (L := P) rfl hown8; have hPl : (P ++ [(x, yu)]).length ≤ 100001 := (by rw [List.length_append]; simp; omega)))
            have hb8 : Below w.heap.size w w8 := below_grown (fun q hq => by have := own_ge hown q hq; omega) (by simp; omega) hg8 (by repeat (first | with_reducible exact Below.refl _ _ | with_reducible assumption | with_reducible apply Below.drew | with_reducible apply below_drewN | (with_reducible apply below_setp; (first | omega | (simp <;> omega))) | (with_reducible apply below_allocp; (first | omega | (simp <;> omega))) | (with_reducible refine below_viap (by assumption) ?_ ?_; (first | omega | (simp <;> omega)))))
            clear hown8 hg8 hloc8
            go_wp2
            exact ⟨⟨k + 1, by rw [hkN.out], by omega, by rw [Hnx.out]; exact ho8, hA8, by omega, hb8⟩, by simp [intOf]; omega⟩
        · have hAe : ptA b c r x = [] := by unfold ptA; rw [if_neg hA1]
          have hA2 : ((-b * x - r).tmod (2 * c) == 0) = false := by rw [beq_eq_false_iff_ne]; exact hA1
          rw [hAe, List.nil_append] at hnx
          by_cases hr2 : 0 < r
          · by_cases hB1v : (-b * x + r).tmod (2 * c) = 0
            · have hBe : ptB b c r x = [(x, (-b * x + r).tdiv (2 * c))] := by unfold ptB; rw [if_pos ⟨hr2, hB1v⟩]
              rw [hBe] at hnx
              clear hAe hBe
              generalize hyv : (-b * x + r).tdiv (2 * c) = yv at *
              go_wp2_with (first | (go_at_call 55; (with_reducible refine (hIs.out _).mono ?_); rintro e v ⟨rfl, rfl⟩) | (go_at_call 54; (with_reducible refine (hRo.out _).mono ?_); rintro e v ⟨rfl, rfl⟩) | (at_builtin; refine wpList_append_own_at _ rfl (.tmp 90) (.tmp 104) 39 rfl (w.heap.size + 1) 51 i0 _ 2 16 Tryz.underlying39 hi hz0 hz1 hz2 rfl (by decide) u5 P.length (cellsP P) rfl ?_ ⟨wr.heap.size, 0, none⟩ 1 1 [.int .i64 x, .int .i64 yv] rfl rfl ?_ (one2 _ _) ?_ ?_ ?_ ?_; exact (by repeat (first | with_reducible assumption | with_reducible apply own_alloc | with_reducible apply own_drew | with_reducible apply own_drewN | (with_reducible refine own_setp (by assumption) ?_ ?_; (first | omega | (simp <;> omega))) | (with_reducible refine own_call (by assumption) ?_))); exact cells2 (Blk.new_at (by simp)); (unfold maxLen; omega); omega; (simp; omega); intro x9 w9 hown9 hg9 _ hloc9))
              have hz9 := hg9.size
              simp at hz9
              have ho9 := own_snocP (p := (x, yv)) hnx.out hown9
              have hb9 : Below w.heap.size w w9 := below_grown (fun q hq => by have := own_ge hown q hq; omega) (by simp; omega) hg9 (by repeat (first | with_reducible exact Below.refl _ _ | with_reducible assumption | with_reducible apply Below.drew | with_reducible apply below_drewN | (with_reducible apply below_setp; (first | omega | (simp <;> omega))) | (with_reducible apply below_allocp; (first | omega | (simp <;> omega))) | (with_reducible refine below_viap (by assumption) ?_ ?_; (first | omega | (simp <;> omega)))))
              have hA9 : Blk w9 w.heap.size 36 #[.int .i64 a, .int .i64 b, .int .i64 c] := Blk.grown (by (repeat (first | with_reducible assumption | (with_reducible apply Blk.new_at; (first | rfl | (simp; done))) | with_reducible apply Blk.store3 | with_reducible apply Blk.store4 | (with_reducible apply Blk.farp; (first | omega | (simp <;> omega))) | with_reducible apply Blk.allocp | with_reducible apply Blk.drew | with_reducible apply Blk.drewN))) hg9 (fun he => by have := own_ge hown _ he.symm; omega)
              go_wp2
              exact ⟨⟨k + 1, by rw [hkN.out], by omega, ho9, hA9, by omega, hb9⟩, by simp [intOf]; omega⟩
            · have hB2v : ((-b * x + r).tmod (2 * c) == 0) = false := by rw [beq_eq_false_iff_ne]; exact hB1v
              have hBe : ptB b c r x = [] := by unfold ptB; rw [if_neg (fun h => hB1v h.2)]
              have Hnx : Hid (ptsK (-e) b c n m (k + 1) = P) := Lib.hid (by rw [hnx.out, hBe]; simp)
              clear hnx hAe hBe
              go_wp2_with (first | (go_at_call 55; (with_reducible refine (hIs.out _).mono ?_); rintro e v ⟨rfl, rfl⟩) | (go_at_call 54; (with_reducible refine (hRo.out _).mono ?_); rintro e v ⟨rfl, rfl⟩))
              exact ⟨⟨k + 1, by rw [hkN.out], by omega, by rw [Hnx.out]; exact hown, hA, hsz, hbel⟩, by simp [intOf]; omega⟩
          · have hr3 : decide (0 < r) = false := decide_eq_false hr2
            have hBe : ptB b c r x = [] := by unfold ptB; rw [if_neg (fun h => hr2 h.1)]
            have Hnx : Hid (ptsK (-e) b c n m (k + 1) = P) := Lib.hid (by rw [hnx.out, hBe]; simp)
            clear hnx hAe hBe
            go_wp2_with (first | (go_at_call 55; (with_reducible refine (hIs.out _).mono ?_); rintro e v ⟨rfl, rfl⟩) | (go_at_call 54; (with_reducible refine (hRo.out _).mono ?_); rintro e v ⟨rfl, rfl⟩))
            exact ⟨⟨k + 1, by rw [hkN.out], by omega, by rw [Hnx.out]; exact hown, hA, hsz, hbel⟩, by simp [intOf]; omega⟩
    · have ek : (2 * m + 1).toNat = k := by omega
      have hlx : decide (x ≤ m) = false := decide_eq_false hle
      rw [ek]
      go_wp2
      go_ret
      exact ⟨_, rfl, own_base (by omega) hown, hbel⟩
end

section
open Go.RowKit

theorem isCls_def {a b c : Int} (h : isCls a b c = true) : isDefB a b c = true := by
  unfold isCls isShown at h
  simp only [Bool.and_eq_true] at h
  exact h.1.1
/-- All points at which a form has the value n. -/
noncomputable def ptsL (d n : Int) (f : Fm) : List (Int × Int) := ptsK d f.b f.c n (ptM d f.c n) (2 * ptM d f.c n + 1).toNat
def RetPb (L : List (Int × Int)) (w : World) (e : Ending) (w' : World) : Prop := ∃ v, e = .returned (.tuple #[v, .bool true]) ∧ w'.ownsRow w.heap.size 51 2 v L.length (cellsP L) ∧ Below w.heap.size w w'
theorem cf_self {d : Int} (D : Dsc d) {f : Fm} (hf : f ∈ clsL d) : CF d ⟨f.a, f.b, f.c⟩ f := by
  have h := CF.of_cls (cls_isCls D hf)
  obtain ⟨⟨_, _, e3, e4, _⟩, _⟩ := mem_clsL D.lo hf
  have hdr : disc ⟨f.a, f.b, f.c⟩ = d := e3
  have hrr : red ⟨f.a, f.b, f.c⟩ = f := red_of e4
  rwa [hdr, hrr] at h
end

section
open Go.RowKit

theorem ptM_bd {e c n : Int} (e1 : 3 ≤ e) (hc : 1 ≤ c ∧ c ≤ 2000) (hn : 1 ≤ n ∧ n ≤ 10000) : 0 ≤ ptM (-e) c n ∧ ptM (-e) c n ≤ 9000 := by
  have q1 : 4 ≤ 4 * c * n := by have := Int.mul_le_mul (show (4 : Int) ≤ 4 * c by omega) hn.1 (by omega) (by omega); omega
  have q2 : 4 * c * n ≤ 80000000 := by have := Int.mul_le_mul (show 4 * c ≤ 8000 by omega) hn.2 (by omega) (by omega); omega
  have q3 : 0 ≤ (4 * c * n).tdiv e := by rw [Int.tdiv_eq_ediv_of_nonneg (by omega)]; exact Int.ediv_nonneg (by omega) (by omega)
  have q4 : (4 * c * n).tdiv e ≤ 80000000 := by rw [Int.tdiv_eq_ediv_of_nonneg (by omega)]; have := Int.ediv_le_self e (show 0 ≤ 4 * c * n by omega); omega
  have hM := rt_spec q3
  unfold ptM
  rw [Int.neg_neg]
  refine ⟨hM.1, ?_⟩
  apply Int.not_lt.1
  intro hlt
  have := Int.mul_le_mul (show (9001 : Int) ≤ rt ((4 * c * n).tdiv e) by omega) (show (9001 : Int) ≤ rt ((4 * c * n).tdiv e) by omega) (by omega) (by omega)
  omega
theorem pts_bd {d n : Int} {f : Fm} (D : Dsc d) (hf : f ∈ clsL d) (hn : 1 ≤ n ∧ n ≤ 10000) : ∀ p ∈ ptsL d n f, (-9000 ≤ p.1 ∧ p.1 ≤ 9000) ∧ (-1000000 ≤ p.2 ∧ p.2 ≤ 1000000) := by
  obtain ⟨⟨a1, a2, e3, e4, b1, b2, c2⟩, _⟩ := mem_clsL D.lo hf
  have c1 := (cf_self D hf).df.c0
  have c1' : 0 < f.c := c1
  have d1 := D.lo; have d2 := D.hi
  obtain ⟨e, he⟩ : ∃ e, d = -e := ⟨-d, by omega⟩
  subst he
  obtain ⟨m0, mb⟩ := ptM_bd (e := e) (c := f.c) (by omega) ⟨by omega, by omega⟩ hn
  have q2 : 4 * f.c * n ≤ 80000000 := by have := Int.mul_le_mul (show 4 * f.c ≤ 8000 by omega) hn.2 (by omega) (by omega); omega
  intro p hp
  unfold ptsL ptsK at hp
  obtain ⟨i, hi, hp⟩ := List.mem_flatMap.1 hp
  have hi := List.mem_range.1 hi
  generalize ptM (-e) f.c n = m at *
  obtain ⟨x, hx⟩ : ∃ x : Int, -m + i = x := ⟨_, rfl⟩
  rw [hx] at hp
  have x1 : -9000 ≤ x ∧ x ≤ 9000 := by omega
  unfold ptAt at hp
  split at hp
  · rename_i hsq
    have hS0 : 0 ≤ -e * x * x + 4 * f.c * n := by unfold sqB at hsq; rw [Bool.and_eq_true] at hsq; exact of_decide_eq_true hsq.1
    have hr := rt_spec hS0
    have hxx : 0 ≤ x * x := by rcases Int.le_total 0 x with h | h; exact Int.mul_nonneg h h; exact Int.mul_nonneg_of_nonpos_of_nonpos h h
    have hex := Int.mul_nonneg (show 0 ≤ e by omega) hxx
    have hexe : -e * x * x = -(e * (x * x)) := by rw [Int.neg_mul, Int.neg_mul, Int.mul_assoc]
    have hr1 : rt (-e * x * x + 4 * f.c * n) ≤ 10000 := by
      apply Int.not_lt.1
      intro hlt
      have := Int.mul_le_mul (show (10001 : Int) ≤ rt (-e * x * x + 4 * f.c * n) by omega) (show (10001 : Int) ≤ rt (-e * x * x + 4 * f.c * n) by omega) (by omega) (by omega)
      omega
    generalize rt (-e * x * x + 4 * f.c * n) = r at *
    have hbx : (-f.b * x).natAbs ≤ 900000 := by
      have h1 : (-f.b * x).natAbs = (-f.b).natAbs * x.natAbs := Int.natAbs_mul _ _
      have h2 := Nat.mul_le_mul (show (-f.b).natAbs ≤ 100 by omega) (show x.natAbs ≤ 9000 by omega)
      omega
    rcases List.mem_append.1 hp with hp | hp
    · unfold ptA at hp
      split at hp
      · simp only [List.mem_singleton] at hp
        subst hp
        have := Int.natAbs_tdiv_le_natAbs (-f.b * x - r) (2 * f.c)
        exact ⟨x1, by dsimp only; omega⟩
      · simp at hp
    · unfold ptB at hp
      split at hp
      · simp only [List.mem_singleton] at hp
        subst hp
        have := Int.natAbs_tdiv_le_natAbs (-f.b * x + r) (2 * f.c)
        exact ⟨x1, by dsimp only; omega⟩
      · simp at hp
  · simp at hp
theorem pts_len {d n : Int} {f : Fm} (D : Dsc d) (hf : f ∈ clsL d) (hn : 1 ≤ n ∧ n ≤ 10000) : (ptsL d n f).length ≤ 50000 := by
  obtain ⟨⟨a1, a2, e3, e4, b1, b2, c2⟩, _⟩ := mem_clsL D.lo hf
  have c1 : 0 < f.c := (cf_self D hf).df.c0
  have d1 := D.lo; have d2 := D.hi
  obtain ⟨e, he⟩ : ∃ e, d = -e := ⟨-d, by omega⟩
  subst he
  obtain ⟨m0, mb⟩ := ptM_bd (e := e) (c := f.c) (by omega) ⟨by omega, by omega⟩ hn
  have := ptsK_len (-e) f.b f.c n (ptM (-e) f.c n) (2 * ptM (-e) f.c n + 1).toNat
  unfold ptsL
  omega
def prmP (p : Int × Int) : Bool := decide ((Int.gcd p.1 p.2 : Int) = 1)
def PpSt2 (L : List (Int × Int)) (w1 : World) (v8 v20 : Value) (wr : World) : Prop :=
  ∃ k : Nat, v20 = .int .i64 k ∧ k ≤ L.length ∧ wr.ownsRow w1.heap.size 51 2 v8 ((L.take k).filter prmP).length (cellsP ((L.take k).filter prmP)) ∧ Below w1.heap.size w1 wr
theorem filter_takeP {L : List (Int × Int)} {k : Nat} (h : k < L.length) : (L.take (k + 1)).filter prmP = (L.take k).filter prmP ++ if prmP L[k] then [L[k]] else [] := by
  rw [List.take_succ_eq_append_getElem h, List.filter_append]
  congr 1
  cases hp : prmP L[k] <;> simp [hp]

end

section
open Go.RowKit

/-- Whether a form has a primitive point with the value n. -/
noncomputable def repP (d n : Int) (f : Fm) : Bool := decide (0 < ((ptsL d n f).filter prmP).length)
def shwB (n : Int) : Bool := decide (1 ≤ n) && decide (n ≤ 10000)
/-- What RepresentingForms gives. -/
def RpL (d n : Int) (L : List Fm) (ok : Bool) : Prop :=
  (isDisc d = false ∧ L = [] ∧ ok = false) ∨ (isDisc d = true ∧ shwB n = false ∧ L = [] ∧ ok = false) ∨ (isDisc d = true ∧ shwB n = true ∧ L = (clsL d).filter (repP d n) ∧ ok = true)
theorem rpL_ex (d n : Int) : ∃ L ok, RpL d n L ok ∧ L.length ≤ 100000 := by
  cases hc : isDisc d with
  | false => exact ⟨_, _, .inl ⟨hc, rfl, rfl⟩, by simp⟩
  | true =>
    cases hs : shwB n with
    | false => exact ⟨_, _, .inr (.inl ⟨hc, hs, rfl, rfl⟩), by simp⟩
    | true => exact ⟨_, _, .inr (.inr ⟨hc, hs, rfl, rfl⟩), Nat.le_trans (List.length_filter_le _ _) (Nat.le_trans (clsL_len d) (by decide))⟩
theorem filter_takeF {p : Fm → Bool} {L : List Fm} {k : Nat} (h : k < L.length) : (L.take (k + 1)).filter p = (L.take k).filter p ++ if p L[k] then [L[k]] else [] := by
  rw [List.take_succ_eq_append_getElem h, List.filter_append]
  congr 1
  cases hp : p L[k] <;> simp [hp]

end

section

theorem sq_rt {S t : Int} (h : t * t = S) : sqB S = true ∧ (0 ≤ t → rt S = t) ∧ (t ≤ 0 → rt S = -t) := by
  have h2 : (-t) * (-t) = S := by rw [Int.neg_mul_neg]; exact h
  have hS : 0 ≤ S := by
    rw [← h]
    rcases Int.le_total 0 t with h | h
    · exact Int.mul_nonneg h h
    · exact Int.mul_nonneg_of_nonpos_of_nonpos h h
  refine ⟨?_, fun h0 => rt_uniq h0 h, fun h0 => rt_uniq (by omega) h2⟩
  unfold sqB
  rw [Bool.and_eq_true, decide_eq_true_eq, decide_eq_true_eq]
  refine ⟨hS, ?_⟩
  rcases Int.le_total 0 t with h0 | h0
  · rw [rt_uniq h0 h]; exact h
  · rw [rt_uniq (by omega) h2]; exact h2
theorem val_iff {a b c n x y S d : Int} (hc : 0 < c) (hd : b * b - 4 * a * c = d) (hS : d * x * x + 4 * c * n = S) : (2 * c * y + b * x) * (2 * c * y + b * x) = S ↔ a * x * x + b * x * y + c * y * y = n := by
  have e : (2 * c * y + b * x) * (2 * c * y + b * x) - S = 4 * c * (a * x * x + b * x * y + c * y * y - n) := by subst hd hS; grind
  constructor
  · intro h
    rw [h, Int.sub_self] at e
    rcases Int.mul_eq_zero.1 e.symm with h1 | h1 <;> omega
  · intro h
    rw [h, Int.sub_self, Int.mul_zero] at e
    omega
theorem ptAt_mem {a b c d n x : Int} (hc : 0 < c) (hd : b * b - 4 * a * c = d) (u y : Int) : (u, y) ∈ ptAt d b c n x ↔ u = x ∧ a * x * x + b * x * y + c * y * y = n := by
  obtain ⟨S, hS⟩ : ∃ S, d * x * x + 4 * c * n = S := ⟨_, rfl⟩
  rw [← val_iff hc hd hS]
  unfold ptAt
  rw [hS]
  have hbn : -b * x = -(b * x) := Int.neg_mul _ _
  constructor
  · intro h
    split at h
    · rename_i hsq
      have hr : rt S * rt S = S := by unfold sqB at hsq; rw [Bool.and_eq_true] at hsq; exact of_decide_eq_true hsq.2
      rcases List.mem_append.1 h with h | h
      · unfold ptA at h
        split at h
        · rename_i ht
          simp only [List.mem_singleton, Prod.mk.injEq] at h
          obtain ⟨rfl, rfl⟩ := h
          have e := Int.mul_tdiv_cancel_of_tmod_eq_zero ht
          refine ⟨rfl, ?_⟩
          rw [e, hbn, show -(b * u) - rt S + b * u = -(rt S) by omega, Int.neg_mul_neg]; exact hr
        · simp at h
      · unfold ptB at h
        split at h
        · rename_i ht
          simp only [List.mem_singleton, Prod.mk.injEq] at h
          obtain ⟨rfl, rfl⟩ := h
          have e := Int.mul_tdiv_cancel_of_tmod_eq_zero ht.2
          refine ⟨rfl, ?_⟩
          rw [e, hbn, show -(b * u) + rt S + b * u = rt S by omega]; exact hr
        · simp at h
    · simp at h
  · rintro ⟨rfl, h⟩
    obtain ⟨h1, h2, h3⟩ := sq_rt h
    rw [if_pos h1, List.mem_append]
    have hc2 : 2 * c ≠ 0 := by omega
    rcases Int.le_total (2 * c * y + b * u) 0 with h0 | h0
    · left
      rw [h3 h0]
      have e : -b * u - -(2 * c * y + b * u) = 2 * c * y := by rw [hbn]; omega
      unfold ptA
      rw [e, if_pos (Int.mul_tmod_right _ _), Int.mul_tdiv_cancel_left _ hc2]
      simp
    · by_cases hz : 2 * c * y + b * u = 0
      · left
        rw [h3 (by omega)]
        have e : -b * u - -(2 * c * y + b * u) = 2 * c * y := by rw [hbn]; omega
        unfold ptA
        rw [e, if_pos (Int.mul_tmod_right _ _), Int.mul_tdiv_cancel_left _ hc2]
        simp
      · right
        rw [h2 h0]
        have e : -b * u + (2 * c * y + b * u) = 2 * c * y := by rw [hbn]; omega
        unfold ptB
        rw [e, if_pos ⟨by omega, Int.mul_tmod_right _ _⟩, Int.mul_tdiv_cancel_left _ hc2]
        simp
theorem ptsL_mem {d n : Int} {f : Fm} (D : Dsc d) (hf : f ∈ clsL d) (hn : 1 ≤ n) (x y : Int) : (x, y) ∈ ptsL d n f ↔ f.a * x * x + f.b * x * y + f.c * y * y = n := by
  have hc : 0 < f.c := (cf_self D hf).df.c0
  obtain ⟨⟨_, _, e3, _⟩, _⟩ := mem_clsL D.lo hf
  have hd : f.b * f.b - 4 * f.a * f.c = d := e3
  have d2 := D.hi
  unfold ptsL ptsK
  rw [List.mem_flatMap]
  constructor
  · rintro ⟨i, _, h⟩
    obtain ⟨hx, h2⟩ := (ptAt_mem hc hd x y).1 h
    rw [hx]
    exact h2
  · intro h
    have hS := (val_iff (a := f.a) (b := f.b) (x := x) (y := y) hc hd rfl).2 h
    have hS0 : 0 ≤ d * x * x + 4 * f.c * n := by
      rw [← hS]
      rcases Int.le_total 0 (2 * f.c * y + f.b * x) with h | h
      · exact Int.mul_nonneg h h
      · exact Int.mul_nonneg_of_nonpos_of_nonpos h h
    obtain ⟨e, he⟩ : ∃ e, d = -e := ⟨-d, by omega⟩
    have hexe : d * x * x = -(x * x * e) := by rw [he, Int.neg_mul, Int.neg_mul, Int.mul_assoc, Int.mul_comm]
    have hcn : 0 ≤ 4 * f.c * n := Int.mul_nonneg (by omega) (by omega)
    have hq : x * x ≤ (4 * f.c * n).tdiv e := by
      rw [Int.tdiv_eq_ediv_of_nonneg hcn]
      exact (Int.le_ediv_iff_mul_le (by omega)).2 (by omega)
    have hq0 : 0 ≤ (4 * f.c * n).tdiv e := by rw [Int.tdiv_eq_ediv_of_nonneg hcn]; exact Int.ediv_nonneg hcn (by omega)
    have hm : -ptM d f.c n ≤ x ∧ x ≤ ptM d f.c n := by
      unfold ptM
      rw [he, Int.neg_neg]
      rcases Int.le_total 0 x with h0 | h0
      · have := (rt_cmp hq0 h0).1 hq
        omega
      · have := (rt_cmp hq0 (show 0 ≤ -x by omega)).1 (by rw [Int.neg_mul_neg]; exact hq)
        omega
    refine ⟨(x + ptM d f.c n).toNat, List.mem_range.2 (by omega), ?_⟩
    rw [show -ptM d f.c n + ((x + ptM d f.c n).toNat : Int) = x by omega]
    exact (ptAt_mem hc hd x y).2 ⟨rfl, h⟩
/-- A form is found just if it represents the number at a primitive point. -/
theorem repP_iff {d n : Int} {f : Fm} (D : Dsc d) (hf : f ∈ clsL d) (hn : 1 ≤ n) : repP d n f = true ↔ ∃ x y : Int, Int.gcd x y = 1 ∧ f.a * x * x + f.b * x * y + f.c * y * y = n := by
  unfold repP
  rw [decide_eq_true_eq]
  constructor
  · intro h
    obtain ⟨p, hp⟩ := List.exists_mem_of_length_pos h
    obtain ⟨h1, h2⟩ := List.mem_filter.1 hp
    obtain ⟨x, y⟩ := p
    refine ⟨x, y, ?_, (ptsL_mem D hf hn x y).1 h1⟩
    unfold prmP at h2
    have := of_decide_eq_true h2
    dsimp only at this
    omega
  · rintro ⟨x, y, h1, h2⟩
    refine List.length_pos_of_mem (a := (x, y)) (List.mem_filter.2 ⟨(ptsL_mem D hf hn x y).2 h2, ?_⟩)
    unfold prmP
    exact decide_eq_true (by dsimp only; omega)
end
end Go.Proofs.YtblcmkhkbgikoaaGreat
