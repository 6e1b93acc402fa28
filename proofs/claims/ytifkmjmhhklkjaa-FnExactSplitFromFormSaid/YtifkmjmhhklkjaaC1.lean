/- Contracts of the small functions on integers: the remainder, the absolute value, the greatest common divisor, the range of discriminants. -/
import Derived.Test.YtifkmjmhhklkjaaRows
import Derived.Test.YtifkmjmhhklkjaaM1
import Derived.WalkKit
import Derived.ProofKit
import Derived.Outline
import Derived.WalkSpells
import Derived.WalkLawsBesides
import Derived.Lib.Hide
import Derived.Deep.QuietTactic
import Derived.BigQuiet
namespace Go.Proofs.Ytifkmjmhhklkjaa
open Go.RowKit

theorem ret_int {k : IntKind} {a b : Int} (h : a = b) : Ending.returned (.int k a) = .returned (.int k b) := by rw [h]
theorem ret_bool {a b : Bool} (h : a = b) : Ending.returned (.bool a) = .returned (.bool b) := by rw [h]
theorem bcell {W w1 : World} (hb : Below W.heap.size W w1) : (∀ b o, b < W.heap.size → w1.cell? ⟨b, o, none⟩ = W.cell? ⟨b, o, none⟩) ∧ (∀ b o, b < W.heap.size → w1.frozen? ⟨b, o, none⟩ = W.frozen? ⟨b, o, none⟩) :=
  ⟨fun b o h => hb.cell (p := ⟨b, o, none⟩) h, fun b o h => hb.frozen (p := ⟨b, o, none⟩) h⟩

theorem tmod_emod {a m : Int} (hm : 0 < m) : (if a.tmod m < 0 then a.tmod m + m else a.tmod m) = a % m := by
  have h1 := Int.emod_nonneg a (show m ≠ 0 by omega)
  have h2 := Int.emod_lt_of_pos a hm
  rw [Int.tmod_eq_emod]
  split <;> split <;> omega

theorem tmod_bd {a m : Int} (hm : 0 < m) : -m < a.tmod m ∧ a.tmod m < m := by
  have h1 := Int.emod_nonneg a (show m ≠ 0 by omega)
  have h2 := Int.emod_lt_of_pos a hm
  rw [Int.tmod_eq_emod]
  split <;> omega

set_option maxHeartbeats 400000 in
theorem nuMod_any (a m : Int) (w : World) (hm : 0 < m) (hm2 : m ≤ 4000000000000000000) :
    Calls Try.prog 86 #[.int .i64 a, .int .i64 m] w fun e w' => e = .returned (.int .i64 (a % m)) ∧ w = w' := by
  have hb := tmod_bd (a := a) hm
  have he := tmod_emod (a := a) hm
  have hne : (m == 0) = false := by rw [beq_eq_false_iff_ne]; omega
  generalize a % m = r at *
  obtain ⟨hb1, hb2⟩ := hb
  by_cases h : a.tmod m < 0
  · rw [if_pos h] at he
    have He := Lib.hid he; clear he
    go_enter Try.func86, Try.ntmps86
    go_wp2
    go_ret
    exact ⟨ret_int He.out, rfl⟩
  · rw [if_neg h] at he
    have He := Lib.hid he; clear he
    go_enter Try.func86, Try.ntmps86
    go_wp2
    go_ret
    exact ⟨ret_int He.out, rfl⟩

set_option maxHeartbeats 400000 in
theorem mod_any (a m : Int) (w : World) (hm : 0 < m) (hm2 : m ≤ 4000000000000000000) :
    Calls Try.prog 89 #[.int .i64 a, .int .i64 m] w fun e w' => e = .returned (.int .i64 (a % m)) ∧ w = w' := by
  have hb := tmod_bd (a := a) hm
  have he := tmod_emod (a := a) hm
  have hne : (m == 0) = false := by rw [beq_eq_false_iff_ne]; omega
  generalize a % m = r at *
  obtain ⟨hb1, hb2⟩ := hb
  by_cases h : a.tmod m < 0
  · rw [if_pos h] at he
    have He := Lib.hid he; clear he
    go_enter Try.func89, Try.ntmps89
    go_wp2
    go_ret
    exact ⟨ret_int He.out, rfl⟩
  · rw [if_neg h] at he
    have He := Lib.hid he; clear he
    go_enter Try.func89, Try.ntmps89
    go_wp2
    go_ret
    exact ⟨ret_int He.out, rfl⟩

theorem tdiv_bd {a m K : Int} (h1 : -K ≤ a) (h2 : a ≤ K) : -K ≤ a.tdiv m ∧ a.tdiv m ≤ K := by
  have h := Int.natAbs_tdiv_le_natAbs a m
  omega

theorem floor_tdiv {a m : Int} (hm : 0 < m) : (a - a % m).tdiv m = a / m := by
  have h : a - a % m = a / m * m := by have := Int.emod_add_mul_ediv a m; rw [Int.mul_comm m] at this; omega
  rw [h, Int.mul_tdiv_cancel _ (by omega)]

set_option maxHeartbeats 400000 in
theorem floorDiv_any (a m : Int) (w : World) (hm : 0 < m) (hm2 : m ≤ 4000000000000000000) (h1 : -4000000000000000000 ≤ a) (h2 : a ≤ 4000000000000000000) :
    Calls Try.prog 146 #[.int .i64 a, .int .i64 m] w fun e w' => e = .returned (.int .i64 (a / m)) ∧ w = w' := by
  have he := floor_tdiv (a := a) hm
  have h3 := Int.emod_nonneg a (show m ≠ 0 by omega)
  have h4 := Int.emod_lt_of_pos a hm
  have hne : (m == 0) = false := by rw [beq_eq_false_iff_ne]; omega
  have H4 := Lib.hid he; clear he
  have hq := tdiv_bd (a := a - a % m) (m := m) (K := 8000000000000000000) (by omega) (by omega)
  generalize a / m = q at *
  go_enter Try.func146, Try.ntmps146
  go_wp2_with (go_at_call 89; refine (mod_any _ _ _ hm hm2).mono ?_; rintro e w' ⟨rfl, rfl⟩)
  go_ret
  exact ⟨ret_int H4.out, rfl⟩

theorem max_self (a : Int) (h1 : -9223372036854775807 ≤ a) : max a (-(max a (-9223372036854775807))) = a.natAbs := by omega

set_option maxHeartbeats 400000 in
theorem abs_any (a : Int) (w : World) (h1 : -4000000000000000000 ≤ a) (h2 : a ≤ 4000000000000000000) :
    Calls Try.prog 120 #[.int .i64 a] w fun e w' => e = .returned (.int .i64 a.natAbs) ∧ w = w' := by
  go_enter Try.func120, Try.ntmps120
  go_wp2
  all_goals
    go_ret
    exact ⟨ret_int (by omega), rfl⟩

set_option maxHeartbeats 400000 in
theorem l1Abs_any (a : Int) (w : World) (h1 : -4000000000000000000 ≤ a) (h2 : a ≤ 4000000000000000000) :
    Calls Try.prog 87 #[.int .i64 a] w fun e w' => e = .returned (.int .i64 a.natAbs) ∧ w = w' := by
  by_cases h : a ≤ -a
  · go_enter Try.func87, Try.ntmps87
    go_wp2
    go_ret
    exact ⟨ret_int (by omega), rfl⟩
  · go_enter Try.func87, Try.ntmps87
    go_wp2
    go_ret
    exact ⟨ret_int (by omega), rfl⟩

theorem gcd_tmod (a b : Int) : Int.gcd b (a.tmod b) = Int.gcd a b := by
  have h := Int.natAbs_tmod a b
  rw [Int.gcd_eq_natAbs_gcd_natAbs, Int.gcd_eq_natAbs_gcd_natAbs, h, Nat.gcd_comm, ← Nat.gcd_rec, Nat.gcd_comm]
theorem tmod_lt (a : Int) {b : Int} (hb : b ≠ 0) : (a.tmod b).natAbs < b.natAbs := by
  rw [Int.natAbs_tmod]
  exact Nat.mod_lt _ (by omega)

set_option maxHeartbeats 400000 in
theorem gcd_any (a b : Int) (w : World) (h1 : -4000000000000000000 ≤ a) (h2 : a ≤ 4000000000000000000) (h3 : -4000000000000000000 ≤ b) (h4 : b ≤ 4000000000000000000) :
    Calls Try.prog 90 #[.int .i64 a, .int .i64 b] w fun e w' => e = .returned (.int .i64 (Int.gcd a b)) ∧ ∃ n, w' = w.drewN n := by
  go_enter Try.func90, Try.ntmps90
  go_wp2
  go_loopw [0, 1] (fun x y wr => ∃ s t : Int, x = .int .i64 s ∧ y = .int .i64 t ∧ -4000000000000000000 ≤ s ∧ s ≤ 4000000000000000000 ∧ -4000000000000000000 ≤ t ∧ t ≤ 4000000000000000000 ∧ Hid (Int.gcd s t = Int.gcd a b) ∧ ∃ n, Hid (wr = w.drewN n))
    (fun _ y _ => (intOf y).natAbs)
  case atStart => exact ⟨a, b, rfl, rfl, h1, h2, h3, h4, Lib.hid rfl, 0, Lib.hid rfl⟩
  case round =>
    obtain ⟨s, t, rfl, rfl, hs1, hs2, ht1, ht2, hg, n, hn⟩ := hrel
    by_cases ht : t = 0
    · subst ht
      go_wp2_with (go_at_call 120; refine (abs_any _ _ hs1 hs2).mono ?_; rintro e w' ⟨rfl, rfl⟩)
      go_ret
      exact ⟨ret_int (by rw [← hg.out]; simp), n, hn.out⟩
    · have hne : (t == 0) = false := by rw [beq_eq_false_iff_ne]; omega
      have hne2 : (t != 0) = true := by rw [bne_iff_ne]; omega
      have hlt := tmod_lt s ht
      have hgt := Lib.hid ((gcd_tmod s t).trans hg.out)
      clear ht
      go_wp2
      go_quiet (fail)
      go_wp2
      go_roundw

      case rel => exact ⟨t, s.tmod t, rfl, rfl, ht1, ht2, by omega, by omega, hgt, _, Lib.hid (by rw [hn.out, World.drewN_drewN])⟩
      case measure => simpa [intOf] using hlt

set_option maxHeartbeats 400000 in
theorem nuGcd_any (a b : Int) (w : World) (h1 : -4000000000000000000 ≤ a) (h2 : a ≤ 4000000000000000000) (h3 : -4000000000000000000 ≤ b) (h4 : b ≤ 4000000000000000000) :
    Calls Try.prog 53 #[.int .i64 a, .int .i64 b] w fun e w' => e = .returned (.int .i64 (Int.gcd a b)) ∧ ∃ n, w' = w.drewN n := by
  go_enter Try.func53, Try.ntmps53
  go_wp2_with (go_at_call 87; refine (l1Abs_any _ _ (by omega) (by omega)).mono ?_; rintro e w' ⟨rfl, rfl⟩)
  go_loopw [0, 1] (fun x y wr => ∃ s t : Int, x = .int .i64 s ∧ y = .int .i64 t ∧ 0 ≤ s ∧ s ≤ 4000000000000000000 ∧ 0 ≤ t ∧ t ≤ 4000000000000000000 ∧ Hid (Int.gcd s t = Int.gcd a b) ∧ ∃ n, Hid (wr = w.drewN n))
    (fun _ y _ => (intOf y).natAbs)
  case atStart => exact ⟨a.natAbs, b.natAbs, rfl, rfl, by omega, by omega, by omega, by omega, Lib.hid (by simp [Int.gcd_eq_natAbs_gcd_natAbs]), 0, Lib.hid rfl⟩
  case round =>
    obtain ⟨s, t, rfl, rfl, hs1, hs2, ht1, ht2, hg, n, hn⟩ := hrel
    by_cases ht : t = 0
    · subst ht
      go_wp2
      go_ret
      exact ⟨ret_int (by rw [← hg.out]; simp; omega), n, hn.out⟩
    · have hne : (t == 0) = false := by rw [beq_eq_false_iff_ne]; omega
      have hne2 : (t != 0) = true := by rw [bne_iff_ne]; omega
      have h0 := Int.emod_nonneg s ht
      have hlt := Int.emod_lt_of_pos s (show 0 < t by omega)
      have hgt := Lib.hid (show Int.gcd t (s % t) = Int.gcd a b by rw [← hg.out, ← gcd_tmod s t, Int.tmod_eq_emod_of_nonneg hs1])
      clear ht
      go_wp2
      go_quiet (fail)
      go_wp2
      go_roundw
      case rel => exact ⟨t, s % t, rfl, rfl, ht1, ht2, by omega, by omega, hgt, _, Lib.hid (by rw [hn.out, World.drewN_drewN])⟩
      case measure => simp [intOf]; omega

/-- A negative discriminant within the range. -/
def isDisc (d : Int) : Bool := decide (-2000 ≤ d) && (decide (d ≤ -3) && decide (d % 4 < 2))

set_option maxHeartbeats 400000 in
theorem reDisc_any (d : Int) (w : World) : Calls Try.prog 51 #[.int .i64 d] w fun e w' => e = .returned (.bool (isDisc d)) ∧ w = w' := by
  unfold isDisc
  by_cases h1 : -2000 ≤ d
  · by_cases h2 : d ≤ -3
    · go_enter Try.func51, Try.ntmps51
      go_wp2_with (first | (go_at_call 86; refine (nuMod_any _ _ _ (by omega) (by omega)).mono ?_; rintro e w' ⟨rfl, rfl⟩) | go_in)
      go_ret
      exact ⟨ret_bool (by first | (simp; done) | (simp; omega) | (rw [Bool.eq_iff_iff]; simp; omega) | (simp_all; done) | (simp_all; omega)), rfl⟩
    · go_enter Try.func51, Try.ntmps51
      go_wp2_with go_in
      go_ret
      exact ⟨ret_bool (by first | (simp; done) | (simp; omega) | (rw [Bool.eq_iff_iff]; simp; omega) | (simp_all; done) | (simp_all; omega)), rfl⟩
  · go_enter Try.func51, Try.ntmps51
    go_wp2_with go_in
    go_ret
    exact ⟨ret_bool (by first | (simp; done) | (simp; omega) | (rw [Bool.eq_iff_iff]; simp; omega) | (simp_all; done) | (simp_all; omega)), rfl⟩

set_option maxHeartbeats 400000 in
theorem isNegativeDisc_any (d : Int) (w : World) : Calls Try.prog 55 #[.int .i64 d] w fun e w' => e = .returned (.bool (isDisc d)) ∧ w = w' := by
  unfold isDisc
  by_cases h1 : -2000 ≤ d
  · by_cases h2 : d ≤ -3
    · have e : decide (d % 4 < 2) = decide (d % 4 ≤ 1) := by rw [Bool.eq_iff_iff]; simp; omega
      have E := Lib.hid e; clear e
      go_enter Try.func55, Try.ntmps55
      go_wp2_with (first | (go_at_call 89; refine (mod_any _ _ _ (by omega) (by omega)).mono ?_; rintro e w' ⟨rfl, rfl⟩) | go_in)
      go_ret
      exact ⟨ret_bool (by rw [E.out]; simp [h1, h2]), rfl⟩
    · go_enter Try.func55, Try.ntmps55
      go_wp2_with go_in
      go_ret
      exact ⟨ret_bool (by first | (simp; done) | (simp; omega) | (rw [Bool.eq_iff_iff]; simp; omega) | (simp_all; done) | (simp_all; omega)), rfl⟩
  · go_enter Try.func55, Try.ntmps55
    go_wp2_with go_in
    go_ret
    exact ⟨ret_bool (by first | (simp; done) | (simp; omega) | (rw [Bool.eq_iff_iff]; simp; omega) | (simp_all; done) | (simp_all; omega)), rfl⟩
end Go.Proofs.Ytifkmjmhhklkjaa
