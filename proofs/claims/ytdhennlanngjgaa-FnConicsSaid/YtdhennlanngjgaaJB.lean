/- Contracts: the parity of an exponent, least roots, triples. -/
import Derived.Test.YtdhennlanngjgaaJA
import Derived.Test.YtdhennlanngjgaaIV
import Derived.Test.YtdhennlanngjgaaAL
namespace Go.Proofs.Ytdhennlanngjgaa
open Go.RowKit

set_option maxHeartbeats 800000 in
theorem exponentM_any (n0 p : Int) (w : World) (hn : 1 ≤ n0) (hn2 : n0 ≤ 1000000000) (hp : 2 ≤ p) (hp2 : p ≤ 1000000000) :
    Calls Try.prog 43 #[.int .i64 (-n0), .int .i64 p] w fun e w' => e = .returned (.int .i64 (expo p n0)) ∧ w = w' := by
  obtain ⟨R, hR⟩ : ∃ R, expo p n0 = R := ⟨_, rfl⟩
  have hst : Hid (0 + expG (n0.toNat + 1) p n0 = R) := Lib.hid (by rw [Int.zero_add]; exact hR)
  rw [hR]
  have e5 : ¬ p = 0 := by omega
  have e6 : (p == 0) = false := by rw [beq_eq_false_iff_ne]; exact e5
  clear hR
  go_enter Try.func43, Try.ntmps43
  go_wp2
  go_loop [0, 5] (fun vn vc => ∃ m, vn = .int .i64 (-m) ∧ ExpSt R p n0 (.int .i64 m) vc) (fun vn _ => (-intOf vn).toNat)
  case atStart => exact ⟨n0, rfl, _, n0, 0, rfl, rfl, ⟨hn, Int.le_refl _⟩, by omega, by omega, Lib.hid (by omega), hst⟩
  case round =>
    clear hst
    obtain ⟨m, rfl, k, n, c, hmn, rfl, ⟨n1, n2⟩, c0, cn, hk, hs⟩ := hrel
    obtain rfl : m = n := by injection hmn
    clear hmn
    by_cases hd : m % p = 0
    · have e7 : (m % p == 0) = true := by rw [beq_iff_eq]; exact hd
      obtain ⟨q1, q2⟩ := div_lt n1 hp hd
      have hk0 : 0 < k := by have := hk.out; omega
      have hs2 : Hid (c + 1 + expG (k - 1) p (m / p) = R) := Lib.hid (by have := hs.out; rw [expG_yes hk0 hd] at this; omega)
      have hk2 : Hid (m / p < ((k - 1 : Nat) : Int)) := Lib.hid (by have := hk.out; omega)
      have hq : wrap64 (-(m.tdiv p)) = -(m / p) := by rw [Int.tdiv_eq_ediv_of_nonneg (by omega)]; exact IntWalk.wrap64_in _ (by omega)
      clear hd hs hk hk0
      go_wp2
      go_round
      case rel => exact ⟨m / p, by first | rfl | rw [hq], k - 1, m / p, c + 1, rfl, rfl, ⟨q1, by omega⟩, by omega, by omega, hk2, hs2⟩
      case measure => simp [intOf, hq]; omega
    · have e7 : (m % p == 0) = false := by rw [beq_eq_false_iff_ne]; exact hd
      have hx := Lib.hid (show c = R by have := hs.out; rw [expG_no hd] at this; omega)
      clear hd hs hk
      go_wp2
      go_ret
      exact ⟨ret_int hx.out, rfl⟩

set_option maxHeartbeats 800000 in
theorem nuExponentM_any (n0 p : Int) (w : World) (hn : 1 ≤ n0) (hn2 : n0 ≤ 1000000000) (hp : 2 ≤ p) (hp2 : p ≤ 1000000000) :
    Calls Try.prog 48 #[.int .i64 (-n0), .int .i64 p] w fun e w' => e = .returned (.int .i64 (expo p n0)) ∧ w = w' := by
  obtain ⟨R, hR⟩ : ∃ R, expo p n0 = R := ⟨_, rfl⟩
  have hst : Hid (0 + expG (n0.toNat + 1) p n0 = R) := Lib.hid (by rw [Int.zero_add]; exact hR)
  rw [hR]
  have e5 : ¬ p = 0 := by omega
  have e6 : (p == 0) = false := by rw [beq_eq_false_iff_ne]; exact e5
  clear hR
  go_enter Try.func48, Try.ntmps48
  go_wp2
  go_loop [0, 5] (fun vn vc => ∃ m, vn = .int .i64 (-m) ∧ ExpSt R p n0 (.int .i64 m) vc) (fun vn _ => (-intOf vn).toNat)
  case atStart => exact ⟨n0, rfl, _, n0, 0, rfl, rfl, ⟨hn, Int.le_refl _⟩, by omega, by omega, Lib.hid (by omega), hst⟩
  case round =>
    clear hst
    obtain ⟨m, rfl, k, n, c, hmn, rfl, ⟨n1, n2⟩, c0, cn, hk, hs⟩ := hrel
    obtain rfl : m = n := by injection hmn
    clear hmn
    by_cases hd : m % p = 0
    · have e7 : (m % p == 0) = true := by rw [beq_iff_eq]; exact hd
      obtain ⟨q1, q2⟩ := div_lt n1 hp hd
      have hk0 : 0 < k := by have := hk.out; omega
      have hs2 : Hid (c + 1 + expG (k - 1) p (m / p) = R) := Lib.hid (by have := hs.out; rw [expG_yes hk0 hd] at this; omega)
      have hk2 : Hid (m / p < ((k - 1 : Nat) : Int)) := Lib.hid (by have := hk.out; omega)
      have hq : wrap64 (-(m.tdiv p)) = -(m / p) := by rw [Int.tdiv_eq_ediv_of_nonneg (by omega)]; exact IntWalk.wrap64_in _ (by omega)
      clear hd hs hk hk0
      go_wp2
      go_round
      case rel => exact ⟨m / p, by first | rfl | rw [hq], k - 1, m / p, c + 1, rfl, rfl, ⟨q1, by omega⟩, by omega, by omega, hk2, hs2⟩
      case measure => simp [intOf, hq]; omega
    · have e7 : (m % p == 0) = false := by rw [beq_eq_false_iff_ne]; exact hd
      have hx := Lib.hid (show c = R by have := hs.out; rw [expG_no hd] at this; omega)
      clear hd hs hk
      go_wp2
      go_ret
      exact ⟨ret_int hx.out, rfl⟩

/-- The exponent of a prime in a number other than 0. -/
def exA (p x : Int) : Int := expo p (x.natAbs : Int)
theorem exA_nn (p x : Int) : 0 ≤ exA p x := (expG_bd _ _ _).1
theorem exA_bd {p x : Int} (h : -1000000000 ≤ x ∧ x ≤ 1000000000) : exA p x ≤ 1000000001 := by
  have := (expG_bd ((x.natAbs : Int).toNat + 1) p (x.natAbs : Int)).2
  unfold exA expo; omega
theorem odE_exA (p x : Int) : odE p x = exA p x % 2 := rfl
theorem exponentA_any (x p : Int) (w : World) (h0 : x ≠ 0) (h : -1000000000 ≤ x ∧ x ≤ 1000000000) (hp : 2 ≤ p) (hp2 : p ≤ 1000000000) :
    Calls Try.prog 43 #[.int .i64 x, .int .i64 p] w fun e w' => e = .returned (.int .i64 (exA p x)) ∧ w = w' := by
  unfold exA
  rcases Int.lt_or_gt_of_ne h0 with h1 | h1
  · rw [show x = -(x.natAbs : Int) by omega, Int.natAbs_neg, Int.natAbs_natCast]
    exact exponentM_any _ p w (by omega) (by omega) hp hp2
  · rw [show (x.natAbs : Int) = x by omega]
    exact exponent_any x p w (by omega) (by omega) hp hp2
theorem nuExponentA_any (x p : Int) (w : World) (h0 : x ≠ 0) (h : -1000000000 ≤ x ∧ x ≤ 1000000000) (hp : 2 ≤ p) (hp2 : p ≤ 1000000000) :
    Calls Try.prog 48 #[.int .i64 x, .int .i64 p] w fun e w' => e = .returned (.int .i64 (exA p x)) ∧ w = w' := by
  unfold exA
  rcases Int.lt_or_gt_of_ne h0 with h1 | h1
  · rw [show x = -(x.natAbs : Int) by omega, Int.natAbs_neg, Int.natAbs_natCast]
    exact nuExponentM_any _ p w (by omega) (by omega) hp hp2
  · rw [show (x.natAbs : Int) = x by omega]
    exact nuExponent_any x p w (by omega) (by omega) hp hp2

set_option maxHeartbeats 400000 in
theorem sign_any (x : Int) (w : World) : Calls Try.prog 42 #[.int .i64 x] w fun e w' => e = .returned (.int .i64 x.sign) ∧ w = w' := by
  rcases Int.lt_trichotomy x 0 with h | h | h
  · rw [Int.sign_eq_neg_one_of_neg h]
    go_enter Try.func42, Try.ntmps42
    go_wp2
    go_ret
    exact ⟨rfl, rfl⟩
  · subst h
    go_enter Try.func42, Try.ntmps42
    go_wp2
    go_ret
    exact ⟨rfl, rfl⟩
  · rw [Int.sign_eq_one_of_pos h]
    go_enter Try.func42, Try.ntmps42
    go_wp2
    go_ret
    exact ⟨rfl, rfl⟩
/-- The roots that are still to be tried. -/
def noR (p k : Int) (r : Nat) : Prop := ∀ j : Nat, j < r → ¬ ((j : Int) * j + k).tmod p = 0
theorem tmod_iff {x p : Int} : x.tmod p = 0 ↔ x % p = 0 := by
  rw [← Int.dvd_iff_tmod_eq_zero, Int.dvd_iff_emod_eq_zero]
theorem rtB_yes {p k : Int} {r : Nat} (hr : (r : Int) < p) (h : ((r : Int) * r + k).tmod p = 0) : rtB p k = true := by
  unfold rtB
  rw [List.any_eq_true]
  exact ⟨r, List.mem_range.2 (by omega), by rw [decide_eq_true_eq]; exact tmod_iff.1 h⟩
theorem rtB_no {p k : Int} {r : Nat} (hr : ¬ (r : Int) < p) (h : noR p k r) : rtB p k = false := by
  unfold rtB
  rw [List.any_eq_false]
  intro j hj
  rw [List.mem_range] at hj
  have := h j (by omega)
  rw [decide_eq_true_eq]
  exact fun e => this (tmod_iff.2 e)

set_option maxHeartbeats 800000 in
theorem leastRoot_any (p k : Int) (w : World) (hp : 2 ≤ p) (hp2 : p ≤ 100000000) (hk : -1000000000 ≤ k ∧ k ≤ 1000000000) :
    Calls Try.prog 44 #[.int .i64 p, .int .i64 k] w fun e w' => (∃ r : Int, e = .returned (.tuple #[.int .i64 r, .bool (rtB p k)])) ∧ w = w' := by
  obtain ⟨k1, k2⟩ := hk
  have hA := Lib.hid (fun w => abs_any p w (by omega) (by omega))
  rw [show (p.natAbs : Int) = p by omega] at hA
  have e5 : ¬ p = 0 := by omega
  have e6 : (p == 0) = false := by rw [beq_eq_false_iff_ne]; exact e5
  go_enter Try.func44, Try.ntmps44
  go_wp2_with (go_at_call 31; (with_reducible refine (hA.out _).mono ?_); rintro e v ⟨rfl, rfl⟩)
  go_loop [6] (fun vr => ∃ r : Nat, vr = .int .i64 r ∧ (r : Int) ≤ p ∧ Hid (noR p k r)) (fun vr => (p - intOf vr).toNat)
  case atStart => exact ⟨0, rfl, by simp; omega, Lib.hid (fun j hj => by omega)⟩
  case round =>
    obtain ⟨r, rfl, hr, hno⟩ := hrel
    by_cases hlt : (r : Int) < p
    · have hb : 0 ≤ (r : Int) * r ∧ (r : Int) * r ≤ 100000000 * 100000000 := ⟨Int.mul_nonneg (by omega) (by omega), Int.mul_le_mul (by omega) (by omega) (by omega) (by omega)⟩
      by_cases hd : ((r : Int) * r + k).tmod p = 0
      · have e7 : (((r : Int) * r + k).tmod p == 0) = true := by rw [beq_iff_eq]; exact hd
        have hR := Lib.hid (rtB_yes hlt hd)
        clear hd hno
        go_wp2
        go_ret2
        exact ⟨⟨_, by rw [hR.out]; rfl⟩, rfl⟩
      · have e7 : (((r : Int) * r + k).tmod p == 0) = false := by rw [beq_eq_false_iff_ne]; exact hd
        have hno2 : Hid (noR p k (r + 1)) := Lib.hid (fun j hj => if e : j = r then (by subst e; exact hd) else hno.out j (by omega))
        clear hd hno
        go_wp2
        go_round
        case rel => exact ⟨r + 1, by go_num, by omega, hno2⟩
        case measure => simp [intOf]; omega
    · have hR := Lib.hid (rtB_no hlt hno.out)
      clear hno
      go_wp2
      go_ret2
      exact ⟨⟨_, by rw [hR.out]; rfl⟩, rfl⟩

set_option maxHeartbeats 800000 in
theorem cnRoot_any (p k : Int) (w : World) (hp : 2 ≤ p) (hp2 : p ≤ 100000000) (hk : -1000000000 ≤ k ∧ k ≤ 1000000000) :
    Calls Try.prog 49 #[.int .i64 p, .int .i64 k] w fun e w' => (∃ r : Int, e = .returned (.int .i64 r) ∧ decide (r < 0) = !rtB p k) ∧ w = w' := by
  obtain ⟨k1, k2⟩ := hk
  have hA := Lib.hid (fun w => l1Abs_any p w (by omega) (by omega))
  rw [show (p.natAbs : Int) = p by omega] at hA
  have e5 : ¬ p = 0 := by omega
  have e6 : (p == 0) = false := by rw [beq_eq_false_iff_ne]; exact e5
  go_enter Try.func49, Try.ntmps49
  go_wp2
  go_loop [5] (fun vr => ∃ r : Nat, vr = .int .i64 r ∧ (r : Int) ≤ p ∧ Hid (noR p k r)) (fun vr => (p - intOf vr).toNat)
  case atStart => exact ⟨0, rfl, by simp; omega, Lib.hid (fun j hj => by omega)⟩
  case round =>
    obtain ⟨r, rfl, hr, hno⟩ := hrel
    by_cases hlt : (r : Int) < p
    · have hb : 0 ≤ (r : Int) * r ∧ (r : Int) * r ≤ 100000000 * 100000000 := ⟨Int.mul_nonneg (by omega) (by omega), Int.mul_le_mul (by omega) (by omega) (by omega) (by omega)⟩
      by_cases hd : ((r : Int) * r + k).tmod p = 0
      · have e7 : (((r : Int) * r + k).tmod p == 0) = true := by rw [beq_iff_eq]; exact hd
        have hR := Lib.hid (rtB_yes hlt hd)
        clear hd hno
        go_wp2_with (go_at_call 35; (with_reducible refine (hA.out _).mono ?_); rintro e v ⟨rfl, rfl⟩)
        go_ret
        exact ⟨⟨r, rfl, by rw [hR.out]; simp⟩, rfl⟩
      · have e7 : (((r : Int) * r + k).tmod p == 0) = false := by rw [beq_eq_false_iff_ne]; exact hd
        have hno2 : Hid (noR p k (r + 1)) := Lib.hid (fun j hj => if e : j = r then (by subst e; exact hd) else hno.out j (by omega))
        clear hd hno
        go_wp2_with (go_at_call 35; (with_reducible refine (hA.out _).mono ?_); rintro e v ⟨rfl, rfl⟩)
        go_round
        case rel => exact ⟨r + 1, by go_num, by omega, hno2⟩
        case measure => simp [intOf]; omega
    · have hR := Lib.hid (rtB_no hlt hno.out)
      clear hno
      go_wp2_with (go_at_call 35; (with_reducible refine (hA.out _).mono ?_); rintro e v ⟨rfl, rfl⟩)
      go_ret
      exact ⟨⟨-1, rfl, by rw [hR.out]; decide⟩, rfl⟩

/-- Whether a number is a coefficient. -/
def cfB (x : Int) : Bool := decide (x ≠ 0) && (decide (-400 ≤ x) && decide (x ≤ 400))
def trB (a b c : Int) : Bool := cfB a && (cfB b && cfB c)
theorem cfB_iff {x : Int} : cfB x = true ↔ x ≠ 0 ∧ -400 ≤ x ∧ x ≤ 400 := by
  unfold cfB
  simp only [Bool.and_eq_true, decide_eq_true_eq]
theorem trB_iff {a b c : Int} : trB a b c = true ↔ TrI a b c := by
  unfold trB
  rw [Bool.and_eq_true, Bool.and_eq_true, cfB_iff, cfB_iff, cfB_iff]
  constructor
  · rintro ⟨⟨h1, h2⟩, ⟨h3, h4⟩, h5, h6⟩
    exact ⟨h1, h2, h3, h4, h5, h6⟩
  · rintro ⟨h1, h2, h3, h4, h5, h6⟩
    exact ⟨⟨h1, h2⟩, ⟨h3, h4⟩, h5, h6⟩

set_option maxHeartbeats 400000 in
theorem abs_fits (a : Int) (w : World) (h : W64 a) :
    Calls Try.prog 31 #[.int .i64 a] w fun e w' => (∃ t : Int, e = .returned (.int .i64 t) ∧ decide (t ≤ 400) = (decide (-400 ≤ a) && decide (a ≤ 400))) ∧ w = w' := by
  obtain ⟨h1, h2⟩ := h
  by_cases hs : -9223372036854775807 ≤ a
  · by_cases hp : 0 ≤ a
    · go_enter Try.func31, Try.ntmps31
      go_wp2
      go_ret
      refine ⟨⟨a, ret_int (by omega), (by first | (simp; done) | (simp; omega) | (rw [Bool.eq_iff_iff]; simp; omega) | (simp_all; done) | (simp_all; omega))⟩, rfl⟩
    · go_enter Try.func31, Try.ntmps31
      go_wp2
      go_ret
      refine ⟨⟨-a, ret_int (by omega), (by first | (simp; done) | (simp; omega) | (rw [Bool.eq_iff_iff]; simp; omega) | (simp_all; done) | (simp_all; omega))⟩, rfl⟩
  · obtain rfl : a = -9223372036854775808 := by omega
    clear h1 h2 hs
    go_enter Try.func31, Try.ntmps31
    go_wp2
    go_ret
    exact ⟨⟨9223372036854775807, rfl, by decide⟩, rfl⟩
set_option maxHeartbeats 400000 in
theorem isCoef_any (a : Int) (w : World) (h : W64 a) : Calls Try.prog 57 #[.int .i64 a] w fun e w' => e = .returned (.bool (cfB a)) ∧ w = w' := by
  have hA := Lib.hid (fun w => abs_fits a w h)
  unfold cfB
  generalize (decide (-400 ≤ a) && decide (a ≤ 400)) = y at *
  clear h
  by_cases h0 : a = 0
  · subst h0
    go_enter Try.func57, Try.ntmps57
    go_wp2
    go_ret
    exact ⟨rfl, rfl⟩
  · have e0 : (a != 0) = true := by rw [bne_iff_ne]; exact h0
    rw [decide_eq_true h0, Bool.true_and]
    go_enter Try.func57, Try.ntmps57
    go_wp2_with (go_at_call 31; refine (hA.out _).mono ?_; rintro e v9 ⟨⟨t, rfl, ht⟩, rfl⟩)
    go_ret
    exact ⟨rfl, rfl⟩
end Go.Proofs.Ytdhennlanngjgaa
