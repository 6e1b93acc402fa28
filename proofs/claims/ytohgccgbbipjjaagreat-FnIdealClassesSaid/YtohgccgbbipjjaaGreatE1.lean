/- Parts EA EB EC ED EE EF laid together by tp.py. -/
import Derived.Test.YtohgccgbbipjjaaGreatCA
import Derived.Test.YtohgccgbbipjjaaGreatEP
import Derived.Test.YtohgccgbbipjjaaGreatN5
import Derived.Test.YtohgccgbbipjjaaGreatW4
import Derived.Test.YtohgccgbbipjjaaGreatUB
import Derived.Test.YtohgccgbbipjjaaGreatGU
import Derived.Test.YtohgccgbbipjjaaGreatK7
namespace Go.Proofs.YtohgccgbbipjjaaGreat
section
open Go.RowKit

/-- The greatest number whose square is at most n. -/
def rtN : Nat → Nat
  | 0 => 0
  | n + 1 => if (rtN n + 1) * (rtN n + 1) ≤ n + 1 then rtN n + 1 else rtN n
theorem rtN_spec : ∀ n, rtN n * rtN n ≤ n ∧ n < (rtN n + 1) * (rtN n + 1)
  | 0 => by decide
  | n + 1 => by
    obtain ⟨h1, h2⟩ := rtN_spec n
    unfold rtN
    split
    · rename_i h
      refine ⟨h, ?_⟩
      have e : (rtN n + 1 + 1) * (rtN n + 1 + 1) = (rtN n + 1) * (rtN n + 1) + 2 * (rtN n + 1) + 1 := by grind
      omega
    · rename_i h
      omega
noncomputable def rt (n : Int) : Int := (rtN n.toNat : Int)
theorem rt_spec {n : Int} (h : 0 ≤ n) : 0 ≤ rt n ∧ rt n * rt n ≤ n ∧ n < (rt n + 1) * (rt n + 1) := by
  obtain ⟨h1, h2⟩ := rtN_spec n.toNat
  unfold rt
  have e1 : ((rtN n.toNat * rtN n.toNat : Nat) : Int) ≤ (n.toNat : Int) := by omega
  have e2 : (n.toNat : Int) < (((rtN n.toNat + 1) * (rtN n.toNat + 1) : Nat) : Int) := by omega
  rw [Int.toNat_of_nonneg h] at e1 e2
  rw [Int.natCast_mul] at e1 e2
  rw [Int.natCast_add] at e2
  exact ⟨by omega, e1, e2⟩
theorem rt_cmp {n m : Int} (h : 0 ≤ n) (hm : 0 ≤ m) : m * m ≤ n ↔ m ≤ rt n := by
  obtain ⟨h1, h2, h3⟩ := rt_spec h
  constructor
  · intro hmn
    apply Int.not_lt.1
    intro hlt
    have := Int.mul_le_mul (show rt n + 1 ≤ m by omega) (show rt n + 1 ≤ m by omega) (by omega) hm
    omega
  · intro hle
    have := Int.mul_le_mul hle hle hm h1
    omega
theorem rt_uniq {n r : Int} (hr : 0 ≤ r) (h : r * r = n) : rt n = r := by
  have hn : 0 ≤ n := by rw [← h]; exact Int.mul_nonneg hr hr
  have h1 := (rt_cmp hn hr).1 (by omega)
  obtain ⟨h2, h3, _⟩ := rt_spec hn
  have : rt n ≤ r := by
    apply Int.not_lt.1
    intro hlt
    have := Int.mul_le_mul (show r + 1 ≤ rt n by omega) (show r + 1 ≤ rt n by omega) (by omega) h2
    have e : (r + 1) * (r + 1) = r * r + 2 * r + 1 := by grind
    omega
  omega
def RtSt (R : Int) (v3 v4 : Value) : Prop := ∃ l h : Int, v3 = .int .i64 l ∧ v4 = .int .i64 h ∧ 0 ≤ l ∧ l ≤ R ∧ R ≤ h ∧ h ≤ 3000000000

set_option maxRecDepth 100000 in
set_option maxHeartbeats 1600000 in
theorem root_any (n : Int) (w : World) (h0 : 0 ≤ n) (h1 : n ≤ 1000000000000) : Calls Tryz.prog 46 #[.int .i64 n] w fun e w' => e = .returned (.int .i64 (rt n)) ∧ w = w' := by
  have hR := rt_spec h0
  have hc := Lib.hid (fun m (hm : 0 ≤ m) => rt_cmp (n := n) (m := m) h0 hm)
  have hb : rt n ≤ 1000000 := by
    apply Int.not_lt.1
    intro hlt
    have := Int.mul_le_mul (show (1000001 : Int) ≤ rt n by omega) (show (1000001 : Int) ≤ rt n by omega) (by omega) (by omega)
    omega
  obtain ⟨R, hRe⟩ : ∃ R, rt n = R := ⟨_, rfl⟩
  rw [hRe] at hc hb hR ⊢
  have r0 := hR.1
  clear hRe hR
  go_enter Tryz.func46, Tryz.ntmps46
  go_wp2
  go_loop [3, 4] (fun v3 v4 => RtSt R v3 v4) (fun v3 v4 => (intOf v4 - intOf v3).toNat)
  case atStart => exact ⟨0, 3000000000, rfl, rfl, by omega, r0, by omega, by omega⟩
  case round =>
    obtain ⟨l, h, rfl, rfl, l0, lR, hR, hh⟩ := hrel
    by_cases hlt : l < h
    · obtain ⟨m, hm⟩ : ∃ m, (l + h + 1) / 2 = m := ⟨_, rfl⟩
      have ht : (l + h + 1).tdiv 2 = m := by rw [Int.tdiv_eq_ediv_of_nonneg (by omega)]; exact hm
      have m1 : l < m := by omega
      have m2 : m ≤ h := by omega
      have hw0 : wrap64 (l + h) = l + h := IntWalk.wrap64_in _ (by omega)
      have hw1 : wrap64 (l + h + 1) = l + h + 1 := IntWalk.wrap64_in _ (by omega)
      have hw2 : wrap64 m = m := IntWalk.wrap64_in _ (by omega)
      have q1 : 0 ≤ m * m := Int.mul_nonneg (by omega) (by omega)
      have q2 : m * m ≤ 3000000000 * 3000000000 := Int.mul_le_mul (by omega) (by omega) (by omega) (by omega)
      have hw3 : wrap64 (m * m) = m * m := IntWalk.wrap64_in _ (by omega)
      have hcm := hc.out m (by omega)
      clear hm
      by_cases hle : m * m ≤ n
      · have hmR := hcm.1 hle
        clear hcm
        go_wp2
        go_round
        case rel => exact ⟨m, h, rfl, rfl, by omega, hmR, hR, hh⟩
        case measure => simp [intOf]; omega
      · have hmR : R < m := by apply Int.not_le.1; intro hx; exact hle (hcm.2 hx)
        have hld : decide (m * m ≤ n) = false := decide_eq_false hle
        have hw4 : wrap64 (m - 1) = m - 1 := IntWalk.wrap64_in _ (by omega)
        clear hcm
        go_wp2
        go_round
        case rel => exact ⟨l, m - 1, rfl, rfl, l0, lR, by omega, by omega⟩
        case measure => simp [intOf]; omega
    · have e : l = R := by omega
      subst e
      have hld : decide (l < h) = false := decide_eq_false hlt
      go_wp2
      go_ret
      exact ⟨rfl, rfl⟩
/-- Whether n is a square. -/
noncomputable def sqB (n : Int) : Bool := decide (0 ≤ n) && decide (rt n * rt n = n)
set_option maxHeartbeats 800000 in
theorem isSquare_any (n : Int) (w : World) (h1 : n ≤ 1000000000000) : Calls Tryz.prog 47 #[.int .i64 n] w fun e w' => e = .returned (.bool (sqB n)) ∧ w = w' := by
  unfold sqB
  by_cases h0 : 0 ≤ n
  · have hR := Lib.hid (fun w => root_any n w h0 h1)
    obtain ⟨r0, r1, _⟩ := rt_spec h0
    have hw : wrap64 (rt n * rt n) = rt n * rt n := IntWalk.wrap64_in _ (by have := Int.mul_nonneg r0 r0; omega)
    rw [decide_eq_true h0, Bool.true_and]
    generalize rt n = r at *
    go_enter Tryz.func47, Tryz.ntmps47
    go_wp2_with (go_at_call 46; (with_reducible refine (hR.out _).mono ?_); rintro e v ⟨rfl, rfl⟩)
    go_ret
    exact ⟨ret_bool (by first | rfl | (rw [Bool.eq_iff_iff, beq_iff_eq, decide_eq_true_iff, hw]) | (rw [Bool.eq_iff_iff, beq_iff_eq, decide_eq_true_iff])), rfl⟩
  · have hd : decide (0 ≤ n) = false := decide_eq_false h0
    rw [hd, Bool.false_and]
    go_enter Tryz.func47, Tryz.ntmps47
    go_wp2
    go_ret
    exact ⟨rfl, rfl⟩
end

section
open Go.RowKit

end

section
open Go.RowKit

end

section
open Go.RowKit

end

section
open Go.RowKit

end

section

end
end Go.Proofs.YtohgccgbbipjjaaGreat
