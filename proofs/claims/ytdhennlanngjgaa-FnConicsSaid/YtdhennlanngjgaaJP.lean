/- Contracts: the square-free part, roots, normal triples, of both sides (written by gen_JP.py). -/
import Derived.Test.YtdhennlanngjgaaJI
import Derived.Test.YtdhennlanngjgaaJO
import Derived.Test.YtdhennlanngjgaaKN
import Derived.BigQuiet
import Derived.Deep.LoopGhost
namespace Go.Proofs.Ytdhennlanngjgaa
open Go.RowKit

/-- The loops of the square-free part end, all numbers small. -/
def sqfT : Nat → Bool → Int → Int → Int → Bool
  | 0, _, _, _, _ => false
  | m + 1, false, p, n, k => (decide (2 ≤ p) && decide (p ≤ 60) && decide (-2100 ≤ n) && decide (n ≤ 2100) && decide (1 ≤ k) && decide (k ≤ 60)) && (if p * p ≤ (n.natAbs : Int) then sqfT m true p n k else true)
  | m + 1, true, p, n, k => (decide (2 ≤ p) && decide (p ≤ 60) && decide (-2100 ≤ n) && decide (n ≤ 2100) && decide (1 ≤ k) && decide (k ≤ 60)) && (if n.tmod (p * p) = 0 then sqfT m true p (n.tdiv (p * p)) (k * p) else sqfT m false (p + 1) n k)
def SqSt (R : Int × Int) (w : World) (m : Nat) (v0 v4 v5 : Value) (wr : World) : Prop :=
  ∃ n k p : Int, v0 = .int .i64 n ∧ v4 = .int .i64 k ∧ v5 = .int .i64 p ∧ Hid (sqfT m false p n k = true) ∧ Hid (sqf m false p n k = R) ∧ w = wr
def SqIn (R : Int × Int) (w : World) (p : Int) (m0 m : Nat) (v0 v4 : Value) (wr : World) : Prop :=
  ∃ n k : Int, v0 = .int .i64 n ∧ v4 = .int .i64 k ∧ m ≤ m0 ∧ Hid (sqfT m true p n k = true) ∧ Hid (sqf m true p n k = R) ∧ w = wr
theorem sqfT_in {m : Nat} {b : Bool} {p n k : Int} (h : sqfT m b p n k = true) : ∃ m', m = m' + 1 ∧ (2 ≤ p ∧ p ≤ 60) ∧ (-2100 ≤ n ∧ n ≤ 2100) ∧ 1 ≤ k ∧ k ≤ 60 := by
  cases m with
  | zero => cases b <;> simp [sqfT] at h
  | succ m =>
    refine ⟨m, rfl, ?_⟩
    cases b <;> (simp only [sqfT, Bool.and_eq_true, decide_eq_true_eq] at h; obtain ⟨⟨⟨⟨⟨⟨a, b⟩, c⟩, d⟩, e⟩, f⟩, _⟩ := h; exact ⟨⟨a, b⟩, ⟨c, d⟩, e, f⟩)
theorem psq_bd {p : Int} (h1 : 2 ≤ p) (h2 : p ≤ 60) : 4 ≤ p * p ∧ p * p ≤ 3600 :=
  ⟨Int.mul_le_mul h1 h1 (by omega) (by omega), Int.mul_le_mul h2 h2 (by omega) (by omega)⟩

set_option maxRecDepth 100000 in
set_option maxHeartbeats 1600000 in
theorem squareFree_any (d : Int) (w : World) (hT : sqfT 4100 false 2 d 1 = true) :
    Calls Try.prog 58 #[.int .i64 d] w fun e w' => e = .returned (.tuple #[.int .i64 (sqF d).1, .int .i64 (sqF d).2]) ∧ w = w' := by
  have hA := Lib.hid abs_any
  obtain ⟨R, hR⟩ : ∃ R, sqF d = R := ⟨_, rfl⟩
  have HR := Lib.hid (show sqf 4100 false 2 d 1 = R from hR)
  have HT := Lib.hid hT
  rw [hR]
  clear hR hT
  go_enter Try.func58, Try.ntmps58
  go_wp2
  go_loopg [0, 4, 5] 4100 (fun m v0 v4 v5 wr => SqSt R w m v0 v4 v5 wr)
  case atStart => exact ⟨d, 1, 2, rfl, rfl, rfl, HT, HR, rfl⟩
  case round =>
    clear HT HR
    obtain ⟨n, k, p, rfl, rfl, rfl, hT, hR, rfl⟩ := hrel
    obtain ⟨m, rfl, ⟨p1, p2⟩, ⟨n1, n2⟩, k1, k2⟩ := sqfT_in hT.out
    obtain ⟨q1, q2⟩ := psq_bd p1 p2
    have hw1 : wrap64 (p * p) = p * p := IntWalk.wrap64_in _ (by omega)
    have hAn := Lib.hid (fun w => hA.out n w (by omega) (by omega))
    have hT2 := hT.out
    have hR2 := hR.out
    by_cases hle : p * p ≤ (n.natAbs : Int)
    · simp only [sqfT, sqf, if_pos hle, Bool.and_eq_true] at hT2 hR2
      have HT2 := Lib.hid hT2.2
      have HR2 := Lib.hid hR2
      clear hT2 hR2 hT hR
      go_wp2_with (go_at_call 31; (with_reducible refine (hAn.out _).mono ?_); rintro e v ⟨rfl, rfl⟩)
      go_loopg [0, 4] m (fun m1 v0 v4 wr => SqIn R w p m m1 v0 v4 wr)
      case atStart => exact ⟨n, k, rfl, rfl, Nat.le_refl _, HT2, HR2, rfl⟩
      case round =>
        clear HT2 HR2 n1 n2 k1 k2 hle hAn
        obtain ⟨n, k, rfl, rfl, hm, hT, hR, rfl⟩ := hrel
        obtain ⟨m2, rfl, _, ⟨n1, n2⟩, k1, k2⟩ := sqfT_in hT.out
        have hT2 := hT.out
        have hR2 := hR.out
        have hz : ¬ p * p = 0 := by omega
        by_cases ht : n.tmod (p * p) = 0
        · simp only [sqfT, sqf, if_pos ht, Bool.and_eq_true] at hT2 hR2
          have HT2 := Lib.hid hT2.2
          have HR2 := Lib.hid hR2
          obtain ⟨m3, hm3, _, ⟨u1, u2⟩, u3, u4⟩ := sqfT_in hT2.2
          have hw2 : wrap64 (n.tdiv (p * p)) = n.tdiv (p * p) := IntWalk.wrap64_in _ (by omega)
          have hw3 : wrap64 (k * p) = k * p := IntWalk.wrap64_in _ (by omega)
          clear hT2 hR2 hT hR hm3
          go_wp2
          go_roundg m2
          case measure => omega
          case rel => exact ⟨_, _, rfl, rfl, by omega, HT2, HR2, rfl⟩
        · simp only [sqfT, sqf, if_neg ht, Bool.and_eq_true] at hT2 hR2
          have HT2 := Lib.hid hT2.2
          have HR2 := Lib.hid hR2
          have htd : (n.tmod (p * p) == 0) = false := by rw [beq_eq_false_iff_ne]; exact ht
          have hw4 : wrap64 (p + 1) = p + 1 := IntWalk.wrap64_in _ (by omega)
          clear hT2 hR2 hT hR
          go_wp2
          go_roundg m2
          case measure => omega
          case rel => exact ⟨_, _, _, rfl, rfl, rfl, HT2, HR2, rfl⟩
    · simp only [sqf, if_neg hle] at hR2
      have hled : decide (p * p ≤ (n.natAbs : Int)) = false := decide_eq_false hle
      subst hR2
      clear hT2 hT hR
      go_wp2_with (go_at_call 31; (with_reducible refine (hAn.out _).mono ?_); rintro e v ⟨rfl, rfl⟩)
      go_ret2
      exact ⟨rfl, rfl⟩

set_option maxRecDepth 100000 in
set_option maxHeartbeats 1600000 in
theorem nuFree_any (d : Int) (w : World) (hT : sqfT 4100 false 2 d 1 = true) :
    Calls Try.prog 75 #[.int .i64 d] w fun e w' => e = .returned (.tuple #[.int .i64 (sqF d).1, .int .i64 (sqF d).2]) ∧ w = w' := by
  have hA := Lib.hid l1Abs_any
  obtain ⟨R, hR⟩ : ∃ R, sqF d = R := ⟨_, rfl⟩
  have HR := Lib.hid (show sqf 4100 false 2 d 1 = R from hR)
  have HT := Lib.hid hT
  rw [hR]
  clear hR hT
  go_enter Try.func75, Try.ntmps75
  go_wp2
  go_loopg [0, 4, 5] 4100 (fun m v0 v4 v5 wr => SqSt R w m v0 v4 v5 wr)
  case atStart => exact ⟨d, 1, 2, rfl, rfl, rfl, HT, HR, rfl⟩
  case round =>
    clear HT HR
    obtain ⟨n, k, p, rfl, rfl, rfl, hT, hR, rfl⟩ := hrel
    obtain ⟨m, rfl, ⟨p1, p2⟩, ⟨n1, n2⟩, k1, k2⟩ := sqfT_in hT.out
    obtain ⟨q1, q2⟩ := psq_bd p1 p2
    have hw1 : wrap64 (p * p) = p * p := IntWalk.wrap64_in _ (by omega)
    have hAn := Lib.hid (fun w => hA.out n w (by omega) (by omega))
    have hT2 := hT.out
    have hR2 := hR.out
    by_cases hle : p * p ≤ (n.natAbs : Int)
    · simp only [sqfT, sqf, if_pos hle, Bool.and_eq_true] at hT2 hR2
      have HT2 := Lib.hid hT2.2
      have HR2 := Lib.hid hR2
      clear hT2 hR2 hT hR
      go_wp2_with (go_at_call 35; (with_reducible refine (hAn.out _).mono ?_); rintro e v ⟨rfl, rfl⟩)
      go_loopg [0, 4] m (fun m1 v0 v4 wr => SqIn R w p m m1 v0 v4 wr)
      case atStart => exact ⟨n, k, rfl, rfl, Nat.le_refl _, HT2, HR2, rfl⟩
      case round =>
        clear HT2 HR2 n1 n2 k1 k2 hle hAn
        obtain ⟨n, k, rfl, rfl, hm, hT, hR, rfl⟩ := hrel
        obtain ⟨m2, rfl, _, ⟨n1, n2⟩, k1, k2⟩ := sqfT_in hT.out
        have hT2 := hT.out
        have hR2 := hR.out
        have hz : ¬ p * p = 0 := by omega
        by_cases ht : n.tmod (p * p) = 0
        · have htd : (n.tmod (p * p) == 0) = true := by rw [beq_iff_eq]; exact ht
          simp only [sqfT, sqf, if_pos ht, Bool.and_eq_true] at hT2 hR2
          have HT2 := Lib.hid hT2.2
          have HR2 := Lib.hid hR2
          obtain ⟨m3, hm3, _, ⟨u1, u2⟩, u3, u4⟩ := sqfT_in hT2.2
          have hw2 : wrap64 (n.tdiv (p * p)) = n.tdiv (p * p) := IntWalk.wrap64_in _ (by omega)
          have hw3 : wrap64 (k * p) = k * p := IntWalk.wrap64_in _ (by omega)
          clear hT2 hR2 hT hR hm3
          go_wp2
          go_roundg m2
          case measure => omega
          case rel => exact ⟨_, _, rfl, rfl, by omega, HT2, HR2, rfl⟩
        · simp only [sqfT, sqf, if_neg ht, Bool.and_eq_true] at hT2 hR2
          have HT2 := Lib.hid hT2.2
          have HR2 := Lib.hid hR2
          have htd : (n.tmod (p * p) == 0) = false := by rw [beq_eq_false_iff_ne]; exact ht
          have hw4 : wrap64 (p + 1) = p + 1 := IntWalk.wrap64_in _ (by omega)
          clear hT2 hR2 hT hR
          go_wp2
          go_roundg m2
          case measure => omega
          case rel => exact ⟨_, _, _, rfl, rfl, rfl, HT2, HR2, rfl⟩
    · simp only [sqf, if_neg hle] at hR2
      have hled : decide (p * p ≤ (n.natAbs : Int)) = false := decide_eq_false hle
      subst hR2
      clear hT2 hT hR
      go_wp2_with (go_at_call 35; (with_reducible refine (hAn.out _).mono ?_); rintro e v ⟨rfl, rfl⟩)
      go_ret2
      exact ⟨rfl, rfl⟩

/-- The greatest number whose square is at most n. -/
def rtN : Nat → Nat
  | 0 => 0
  | n + 1 => if (rtN n + 1) * (rtN n + 1) ≤ n + 1 then rtN n + 1 else rtN n
theorem rtN_spec : ∀ n, rtN n * rtN n ≤ n ∧ n < (rtN n + 1) * (rtN n + 1)
  | 0 => by decide
  | n + 1 => by
    obtain ⟨h1, h2⟩ := rtN_spec n
    unfold rtN
    split
    · rename_i h
      refine ⟨h, ?_⟩
      have e : (rtN n + 1 + 1) * (rtN n + 1 + 1) = (rtN n + 1) * (rtN n + 1) + 2 * (rtN n + 1) + 1 := by grind
      omega
    · rename_i h
      omega
noncomputable def rt (n : Int) : Int := (rtN n.toNat : Int)
theorem rt_spec {n : Int} (h : 0 ≤ n) : 0 ≤ rt n ∧ rt n * rt n ≤ n ∧ n < (rt n + 1) * (rt n + 1) := by
  obtain ⟨h1, h2⟩ := rtN_spec n.toNat
  unfold rt
  have e1 : ((rtN n.toNat * rtN n.toNat : Nat) : Int) ≤ (n.toNat : Int) := by omega
  have e2 : (n.toNat : Int) < (((rtN n.toNat + 1) * (rtN n.toNat + 1) : Nat) : Int) := by omega
  rw [Int.toNat_of_nonneg h] at e1 e2
  rw [Int.natCast_mul] at e1 e2
  rw [Int.natCast_add] at e2
  exact ⟨by omega, e1, e2⟩
theorem rt_cmp {n m : Int} (h : 0 ≤ n) (hm : 0 ≤ m) : m * m ≤ n ↔ m ≤ rt n := by
  obtain ⟨h1, h2, h3⟩ := rt_spec h
  constructor
  · intro hmn
    apply Int.not_lt.1
    intro hlt
    have := Int.mul_le_mul (show rt n + 1 ≤ m by omega) (show rt n + 1 ≤ m by omega) (by omega) hm
    omega
  · intro hle
    have := Int.mul_le_mul hle hle hm h1
    omega
theorem rt_uniq {n r : Int} (hr : 0 ≤ r) (h : r * r = n) : rt n = r := by
  have hn : 0 ≤ n := by rw [← h]; exact Int.mul_nonneg hr hr
  have h1 := (rt_cmp hn hr).1 (by omega)
  obtain ⟨h2, h3, _⟩ := rt_spec hn
  have : rt n ≤ r := by
    apply Int.not_lt.1
    intro hlt
    have := Int.mul_le_mul (show r + 1 ≤ rt n by omega) (show r + 1 ≤ rt n by omega) (by omega) h2
    have e : (r + 1) * (r + 1) = r * r + 2 * r + 1 := by grind
    omega
  omega
def RtSt (R : Int) (v3 v4 : Value) : Prop := ∃ l h : Int, v3 = .int .i64 l ∧ v4 = .int .i64 h ∧ 0 ≤ l ∧ l ≤ R ∧ R ≤ h ∧ h ≤ 3000000000

set_option maxRecDepth 100000 in
set_option maxHeartbeats 1600000 in
theorem root_any (n : Int) (w : World) (h0 : 0 ≤ n) (h1 : n ≤ 1000000000000) : Calls Try.prog 60 #[.int .i64 n] w fun e w' => e = .returned (.int .i64 (rt n)) ∧ w = w' := by
  have hR := rt_spec h0
  have hc := Lib.hid (fun m (hm : 0 ≤ m) => rt_cmp (n := n) (m := m) h0 hm)
  have hb : rt n ≤ 1000000 := by
    apply Int.not_lt.1
    intro hlt
    have := Int.mul_le_mul (show (1000001 : Int) ≤ rt n by omega) (show (1000001 : Int) ≤ rt n by omega) (by omega) (by omega)
    omega
  obtain ⟨R, hRe⟩ : ∃ R, rt n = R := ⟨_, rfl⟩
  rw [hRe] at hc hb hR ⊢
  have r0 := hR.1
  clear hRe hR
  go_enter Try.func60, Try.ntmps60
  go_wp2
  go_loop [3, 4] (fun v3 v4 => RtSt R v3 v4) (fun v3 v4 => (intOf v4 - intOf v3).toNat)
  case atStart => exact ⟨0, 3000000000, rfl, rfl, by omega, r0, by omega, by omega⟩
  case round =>
    obtain ⟨l, h, rfl, rfl, l0, lR, hR, hh⟩ := hrel
    by_cases hlt : l < h
    · obtain ⟨m, hm⟩ : ∃ m, (l + h + 1) / 2 = m := ⟨_, rfl⟩
      have ht : (l + h + 1).tdiv 2 = m := by rw [Int.tdiv_eq_ediv_of_nonneg (by omega)]; exact hm
      have m1 : l < m := by omega
      have m2 : m ≤ h := by omega
      have hw0 : wrap64 (l + h) = l + h := IntWalk.wrap64_in _ (by omega)
      have hw1 : wrap64 (l + h + 1) = l + h + 1 := IntWalk.wrap64_in _ (by omega)
      have hw2 : wrap64 m = m := IntWalk.wrap64_in _ (by omega)
      have q1 : 0 ≤ m * m := Int.mul_nonneg (by omega) (by omega)
      have q2 : m * m ≤ 3000000000 * 3000000000 := Int.mul_le_mul (by omega) (by omega) (by omega) (by omega)
      have hw3 : wrap64 (m * m) = m * m := IntWalk.wrap64_in _ (by omega)
      have hcm := hc.out m (by omega)
      clear hm
      by_cases hle : m * m ≤ n
      · have hmR := hcm.1 hle
        clear hcm
        go_wp2
        go_round
        case rel => exact ⟨m, h, rfl, rfl, by omega, hmR, hR, hh⟩
        case measure => simp [intOf]; omega
      · have hmR : R < m := by apply Int.not_le.1; intro hx; exact hle (hcm.2 hx)
        have hld : decide (m * m ≤ n) = false := decide_eq_false hle
        have hw4 : wrap64 (m - 1) = m - 1 := IntWalk.wrap64_in _ (by omega)
        clear hcm
        go_wp2
        go_round
        case rel => exact ⟨l, m - 1, rfl, rfl, l0, lR, by omega, by omega⟩
        case measure => simp [intOf]; omega
    · have e : l = R := by omega
      subst e
      have hld : decide (l < h) = false := decide_eq_false hlt
      go_wp2
      go_ret
      exact ⟨rfl, rfl⟩
/-- Whether n is a square. -/
noncomputable def sqB (n : Int) : Bool := decide (0 ≤ n) && decide (rt n * rt n = n)
set_option maxHeartbeats 800000 in
theorem isSquare_any (n : Int) (w : World) (h1 : n ≤ 1000000000000) : Calls Try.prog 59 #[.int .i64 n] w fun e w' => e = .returned (.bool (sqB n)) ∧ w = w' := by
  unfold sqB
  by_cases h0 : 0 ≤ n
  · have hR := Lib.hid (fun w => root_any n w h0 h1)
    obtain ⟨r0, r1, _⟩ := rt_spec h0
    have hw : wrap64 (rt n * rt n) = rt n * rt n := IntWalk.wrap64_in _ (by have := Int.mul_nonneg r0 r0; omega)
    rw [decide_eq_true h0, Bool.true_and]
    generalize rt n = r at *
    go_enter Try.func59, Try.ntmps59
    go_wp2_with (go_at_call 60; (with_reducible refine (hR.out _).mono ?_); rintro e v ⟨rfl, rfl⟩)
    go_ret
    exact ⟨ret_bool (by first | rfl | (rw [Bool.eq_iff_iff, beq_iff_eq, decide_eq_true_iff, hw]) | (rw [Bool.eq_iff_iff, beq_iff_eq, decide_eq_true_iff])), rfl⟩
  · have hd : decide (0 ≤ n) = false := decide_eq_false h0
    rw [hd, Bool.false_and]
    go_enter Try.func59, Try.ntmps59
    go_wp2
    go_ret
    exact ⟨rfl, rfl⟩

set_option maxHeartbeats 1600000 in
theorem nuRoot_any (n : Int) (w : World) (h0 : 0 ≤ n) (h1 : n ≤ 100000000000000000) :
    Calls Try.prog 65 #[.int .i64 n] w fun e w' => (∃ r : Int, e = .returned (.int .i64 r) ∧ 0 ≤ r ∧ r ≤ 1000000000 ∧ r * r ≤ n ∧ n < (r + 1) * (r + 1)) ∧ w = w' := by
  go_enter Try.func65, Try.ntmps65
  go_wp2
  go_loop [3, 4] (fun vl vh => ∃ lo hi : Int, vl = .int .i64 lo ∧ vh = .int .i64 hi ∧ 0 ≤ lo ∧ lo ≤ hi ∧ hi ≤ 1000000000 ∧ Hid (lo * lo ≤ n ∧ n < (hi + 1) * (hi + 1))) (fun vl vh => (intOf vh - intOf vl).toNat)
  case atStart => exact ⟨0, 1000000000, rfl, rfl, by omega, by omega, by omega, Lib.hid ⟨by omega, by omega⟩⟩
  case round =>
    obtain ⟨lo, hi, rfl, rfl, l0, l1, l2, hb⟩ := hrel
    by_cases hlt : lo < hi
    · obtain ⟨m, hm⟩ : ∃ m, (lo + hi + 1) / 2 = m := ⟨_, rfl⟩
      have m1 : lo < m := by omega
      have m2 : m ≤ hi := by omega
      have mm : 0 ≤ m * m ∧ m * m ≤ 1000000000 * 1000000000 := ⟨Int.mul_nonneg (by omega) (by omega), Int.mul_le_mul (by omega) (by omega) (by omega) (by omega)⟩
      by_cases hmm : m * m ≤ n
      · have hb2 : Hid (m * m ≤ n ∧ n < (hi + 1) * (hi + 1)) := Lib.hid ⟨hmm, hb.out.2⟩
        clear hb
        go_wp2
        go_round
        case rel => exact ⟨m, hi, by first | rfl | rw [hm], rfl, by omega, by omega, by omega, hb2⟩
        case measure => simp [intOf]; omega
      · have hb2 : Hid (lo * lo ≤ n ∧ n < (m - 1 + 1) * (m - 1 + 1)) := Lib.hid ⟨hb.out.1, by rw [Int.sub_add_cancel]; omega⟩
        clear hb
        go_wp2
        go_round
        case rel => exact ⟨lo, m - 1, rfl, by first | rfl | rw [hm], by omega, by omega, by omega, hb2⟩
        case measure => simp [intOf]; omega
    · have e : lo = hi := by omega
      subst e
      go_wp2
      go_ret
      exact ⟨⟨lo, rfl, l0, l2, hb.out.1, hb.out.2⟩, rfl⟩

theorem rt_of {n r : Int} (hn : 0 ≤ n) (h0 : 0 ≤ r) (h1 : r * r ≤ n) (h2 : n < (r + 1) * (r + 1)) : rt n = r := by
  have a := (rt_cmp hn h0).1 h1
  have b : ¬ r + 1 ≤ rt n := fun h => by
    have := (rt_cmp hn (show 0 ≤ r + 1 by omega)).2 h
    omega
  omega
set_option maxHeartbeats 800000 in
theorem nuSquare_any (n : Int) (w : World) (h1 : n ≤ 1000000000000) : Calls Try.prog 64 #[.int .i64 n] w fun e w' => e = .returned (.bool (sqB n)) ∧ w = w' := by
  by_cases h0 : n < 0
  · have hb : sqB n = false := by unfold sqB; rw [decide_eq_false (show ¬ 0 ≤ n by omega)]; rfl
    rw [hb]
    go_enter Try.func64, Try.ntmps64
    go_wp2
    go_ret
    exact ⟨rfl, rfl⟩
  · have hR := Lib.hid (fun w => nuRoot_any n w (by omega) (by omega))
    go_enter Try.func64, Try.ntmps64
    go_wp2_with fail
    refine (hR.out _).mono ?_
    rintro e v ⟨⟨r, rfl, r0, r1, r2, r3⟩, rfl⟩
    have hr : r = rt n := (rt_of (by omega) r0 r2 r3).symm
    have hb : sqB n = decide (r * r = n) := by unfold sqB; rw [decide_eq_true (show 0 ≤ n by omega), ← hr]; rfl
    have rb : r ≤ 1000000 := by
      apply Int.not_lt.1; intro hl
      have := Int.mul_le_mul (show (1000001 : Int) ≤ r by omega) (show (1000001 : Int) ≤ r by omega) (by omega) (by omega)
      omega
    have rr := Int.mul_le_mul rb rb r0 (by omega)
    have hw : wrap64 (r * r) = r * r := IntWalk.wrap64_in _ (by have := Int.mul_nonneg r0 r0; omega)
    have HB := Lib.hid hb
    clear hb hr r2 r3 rr r1
    by_cases hq : r * r = n
    · have hq' : (r * r == n) = true := by rw [beq_iff_eq]; exact hq
      have HQ := Lib.hid (decide_eq_true hq)
      clear hq
      go_wp2
      go_ret
      exact ⟨by rw [HB.out, HQ.out]; rfl, rfl⟩
    · have hq' : (r * r == n) = false := by rw [beq_eq_false_iff_ne]; exact hq
      have HQ := Lib.hid (decide_eq_false hq)
      clear hq
      go_wp2
      go_ret
      exact ⟨by rw [HB.out, HQ.out]; rfl, rfl⟩

/-! Numbers up to 400. -/
def nfOk (a : Int) : Bool := sqfT 4100 false 2 a 1 && (decide (1 ≤ (sqF a).2) && (decide ((sqF a).2 ≤ 60) && (decide ((sqF a).2 = 1) == (List.range 19).all fun q => decide (¬ a % (((q : Int) + 2) * ((q : Int) + 2)) = 0))))
theorem nf_tab : ((List.range 400).all fun i => nfOk ((i : Int) + 1) && nfOk (-((i : Int) + 1))) = true := by decide +kernel
theorem nf_ok {a : Int} (h0 : a ≠ 0) (h1 : -400 ≤ a) (h2 : a ≤ 400) : nfOk a = true := by
  have h := List.all_eq_true.1 nf_tab (a.natAbs - 1) (List.mem_range.2 (by omega))
  rw [Bool.and_eq_true] at h
  rcases Int.lt_or_gt_of_ne h0 with h3 | h3
  · have := h.2
    rwa [show -(((a.natAbs - 1 : Nat) : Int) + 1) = a by omega] at this
  · have := h.1
    rwa [show (((a.natAbs - 1 : Nat) : Int) + 1) = a by omega] at this
theorem nf_ok2 {a : Int} (h0 : a ≠ 0) (h1 : -400 ≤ a) (h2 : a ≤ 400) : sqfT 4100 false 2 a 1 = true ∧ 1 ≤ (sqF a).2 ∧ (sqF a).2 ≤ 60 ∧ ((sqF a).2 = 1 ↔ Sqf a) := by
  have h := nf_ok h0 h1 h2
  unfold nfOk at h
  simp only [Bool.and_eq_true, decide_eq_true_eq] at h
  obtain ⟨k1, k2, k3, k4⟩ := h
  refine ⟨k1, k2, k3, ?_⟩
  have k5 : (sqF a).2 = 1 ↔ ((List.range 19).all fun q : Nat => decide (¬ a % (((q : Int) + 2) * ((q : Int) + 2)) = 0)) = true := by
    rw [← eq_of_beq k4, decide_eq_true_eq]
  rw [k5, List.all_eq_true]
  constructor
  · intro h q hq hd
    have h4 : q * q ≤ 400 := by
      have := Int.le_of_dvd (by omega) (Int.dvd_natAbs.2 hd)
      omega
    have h5 : q ≤ 20 := by
      apply Int.not_lt.1; intro hl
      have := Int.mul_le_mul (show (21 : Int) ≤ q by omega) (show (21 : Int) ≤ q by omega) (by omega) (by omega)
      omega
    have h6 := of_decide_eq_true (h (q.toNat - 2) (List.mem_range.2 (by omega)))
    rw [show (((q.toNat - 2 : Nat) : Int) + 2) = q by omega] at h6
    exact h6 (Int.emod_eq_zero_of_dvd hd)
  · intro h q _
    apply decide_eq_true
    intro he
    exact h ((q : Int) + 2) (by omega) (Int.dvd_of_emod_eq_zero he)
/-- Whether a triple is normal, as both sides tell. -/
noncomputable def nmB (a b c : Int) : Bool := decide ((sqF a).2 = 1) && (decide ((sqF b).2 = 1) && (decide ((sqF c).2 = 1) && (decide ((Int.gcd a b : Int) = 1) && (decide ((Int.gcd a c : Int) = 1) && decide ((Int.gcd b c : Int) = 1)))))
theorem nmB_iff {a b c : Int} (h : TrI a b c) : nmB a b c = true ↔ NrT a b c := by
  unfold nmB
  simp only [Bool.and_eq_true, decide_eq_true_eq]
  have q1 := (nf_ok2 h.a0 h.a1.1 h.a1.2).2.2.2
  have q2 := (nf_ok2 h.b0 h.b1.1 h.b1.2).2.2.2
  have q3 := (nf_ok2 h.c0 h.c1.1 h.c1.2).2.2.2
  rw [q1, q2, q3]
  constructor
  · rintro ⟨s1, s2, s3, g1, g2, g3⟩
    have c1 : Cp a b := Cp.of (by omega)
    have c2 : Cp a c := Cp.of (by omega)
    have c3 : Cp b c := Cp.of (by omega)
    have nd : ∀ {x y q : Int}, Cp x y → PrI q → q ∣ x → ¬ q ∣ y := fun {x y q} hc hq hx hy => by
      obtain ⟨u, v, e⟩ := hc
      have h1 : q ∣ 1 := by rw [← e]; exact Int.dvd_add (Int.dvd_mul_of_dvd_right hx) (Int.dvd_mul_of_dvd_right hy)
      have := Int.le_of_dvd (by omega) h1
      have := hq.1
      omega
    refine ⟨h, fun q hq hd => ?_, s1, s2, s3⟩
    rcases pr_eu hq hd with h1 | h1
    · rcases pr_eu hq h1 with h1 | h1
      · exact .inl ⟨h1, nd c1 hq h1, nd c2 hq h1⟩
      · exact .inr (.inl ⟨nd c1.symm hq h1, h1, nd c3 hq h1⟩)
    · exact .inr (.inr ⟨nd c2.symm hq h1, nd c3.symm hq h1, h1⟩)
  · intro N
    obtain ⟨c1, c2, c3⟩ := N.cp
    exact ⟨N.sa, N.sb, N.sc, by rw [c1.gcd]; rfl, by rw [c2.gcd]; rfl, by rw [c3.gcd]; rfl⟩
/-- A normal triple is its own normal triple. -/
theorem sqf_dvd {m n : Int} (hm : Sqf m) (h0 : m ≠ 0) (h : ∀ q, PrI q → q ∣ m → q ∣ n) : m ∣ n := by
  obtain ⟨g, k, l, g0, hk, hl, hc⟩ := gcd_split (a := m) (b := n) (.inl h0)
  have hk0 : k ≠ 0 := fun e => by rw [e, Int.mul_zero] at hk; exact h0 hk
  have h1 : k = 1 ∨ k = -1 := by
    by_cases hu : 2 ≤ (k.natAbs : Int)
    · exfalso
      obtain ⟨p, hp, hd⟩ := pr_ex hu
      have hpk := Int.dvd_natAbs.1 hd
      have hpn := h p hp (by rw [hk]; exact Int.dvd_mul_of_dvd_right hpk)
      rw [hl] at hpn
      rcases pr_eu hp hpn with h2 | h2
      · obtain ⟨x, hx⟩ := h2
        obtain ⟨y, hy⟩ := hpk
        exact hm p hp.1 ⟨x * y, by rw [hk, hx, hy]; grind⟩
      · obtain ⟨u, v, e⟩ := hc
        have h3 : p ∣ 1 := by rw [← e]; exact Int.dvd_add (Int.dvd_mul_of_dvd_right hpk) (Int.dvd_mul_of_dvd_right h2)
        have := Int.le_of_dvd (by omega) h3
        have := hp.1
        omega
    · omega
  rcases h1 with rfl | rfl
  · exact ⟨l, by rw [hk, hl]; grind⟩
  · exact ⟨-l, by rw [hk, hl]; grind⟩
theorem NrT.self {a b c : Int} (h : NrT a b c) {x : Int} (hx : x = a ∨ x = b ∨ x = c) : nfE a b c x = x := by
  have x0 : x ≠ 0 := by
    have := h.t.a0; have := h.t.b0; have := h.t.c0
    rcases hx with rfl | rfl | rfl <;> assumption
  have xs : Sqf x := by
    have := h.sa; have := h.sb; have := h.sc
    rcases hx with rfl | rfl | rfl <;> assumption
  have key : ∀ q, PrI q → (q ∣ nfE a b c x ↔ q ∣ x) := fun q hq => by
    rw [h.t.ndvd x0 hq, h.t.pr]
    have oa := odE_two q a; have ob := odE_two q b; have oc := odE_two q c
    rw [cd_iff]
    have hd : q ∣ x → q ∣ a * b * c := fun hd => by
      rcases hx with rfl | rfl | rfl
      · exact Int.dvd_mul_of_dvd_left (Int.dvd_mul_of_dvd_left hd)
      · exact Int.dvd_mul_of_dvd_left (Int.dvd_mul_of_dvd_right hd)
      · exact Int.dvd_mul_of_dvd_right hd
    have one : q ∣ a * b * c → odE q a + odE q b + odE q c = 1 := fun hd => by
      rcases h.o q hq hd with ⟨n1, n2, n3⟩ | ⟨n1, n2, n3⟩ | ⟨n1, n2, n3⟩
      · rw [odE_sqf hq h.t.a0 h.sa n1, odE_ndvd n2, odE_ndvd n3]; rfl
      · rw [odE_sqf hq h.t.b0 h.sb n2, odE_ndvd n1, odE_ndvd n3]; rfl
      · rw [odE_sqf hq h.t.c0 h.sc n3, odE_ndvd n1, odE_ndvd n2]; rfl
    constructor
    · rintro ⟨⟨_, h1⟩, h2⟩
      have h3 := one h1
      apply Classical.byContradiction; intro hn
      rw [odE_ndvd hn] at h2
      omega
    · intro h1
      have h3 := one (hd h1)
      exact ⟨⟨hq, hd h1⟩, .inl ⟨h3, odE_sqf hq x0 xs h1⟩⟩
  have n0 := h.t.nne x0
  have d1 : nfE a b c x ∣ x := sqf_dvd (h.t.nsqf x0) n0 fun q hq hd => (key q hq).1 hd
  have d2 : x ∣ nfE a b c x := sqf_dvd xs x0 fun q hq hd => (key q hq).2 hd
  have sg := h.t.nsign (x := x)
  have ab : (nfE a b c x).natAbs = x.natAbs := Nat.dvd_antisymm (Int.natAbs_dvd_natAbs.2 d1) (Int.natAbs_dvd_natAbs.2 d2)
  generalize nfE a b c x = y at *
  rcases Int.lt_or_gt_of_ne x0 with h1 | h1
  · rw [Int.sign_eq_neg_one_of_neg h1] at sg
    have := Int.sign_eq_neg_one_iff_neg.1 sg
    omega
  · rw [Int.sign_eq_one_of_pos h1] at sg
    have := Int.sign_eq_one_iff_pos.1 sg
    omega
theorem NrT.plF {a b c : Int} (h : NrT a b c) : plF a b c = plG a b c := by
  rw [plF_nf h.t, h.self (.inl rfl), h.self (.inr (.inl rfl)), h.self (.inr (.inr rfl))]

set_option maxRecDepth 100000 in
set_option maxHeartbeats 6400000 in
theorem nmT_any (a b c : Int) (w : World) (h : TrI a b c) :
    Calls Try.prog 30 #[.agg #[.int .i64 a, .int .i64 b, .int .i64 c]] w fun e w' => e = .returned (.bool (nmB a b c)) ∧ Below w.heap.size w w' := by
  have hLs := Lib.hid (fun w => tlist_any a b c w)
  have k1 := nf_ok2 h.a0 h.a1.1 h.a1.2
  have k2 := nf_ok2 h.b0 h.b1.1 h.b1.2
  have k3 := nf_ok2 h.c0 h.c1.1 h.c1.2
  have hSa := Lib.hid (fun w => squareFree_any a w k1.1)
  have hSb := Lib.hid (fun w => squareFree_any b w k2.1)
  have hSc := Lib.hid (fun w => squareFree_any c w k3.1)
  have hG1 := Lib.hid (fun w => gcd_any a b w (by have := h.a1; omega) (by have := h.a1; omega) (by have := h.b1; omega) (by have := h.b1; omega))
  have hG2 := Lib.hid (fun w => gcd_any a c w (by have := h.a1; omega) (by have := h.a1; omega) (by have := h.c1; omega) (by have := h.c1; omega))
  have hG3 := Lib.hid (fun w => gcd_any b c w (by have := h.b1; omega) (by have := h.b1; omega) (by have := h.c1; omega) (by have := h.c1; omega))
  unfold nmB
  have a1 := k1.2.1; have a2 := k1.2.2.1; have b1 := k2.2.1; have b2 := k2.2.2.1; have c1 := k3.2.1; have c2 := k3.2.2.1
  have hx0 : ∀ w : World, (Instr.index 63 (.agg #[.int .i64 a, .int .i64 b, .int .i64 c]) (.int .i64 0)).run Try.prog w = .ok (.int .i64 a) w := fun _ => by kernel_rfl
  have hx1 : ∀ w : World, (Instr.index 63 (.agg #[.int .i64 a, .int .i64 b, .int .i64 c]) (.int .i64 1)).run Try.prog w = .ok (.int .i64 b) w := fun _ => by kernel_rfl
  have hx2 : ∀ w : World, (Instr.index 63 (.agg #[.int .i64 a, .int .i64 b, .int .i64 c]) (.int .i64 2)).run Try.prog w = .ok (.int .i64 c) w := fun _ => by kernel_rfl
  clear h k1 k2 k3
  generalize (sqF a).1 = a3 at *
  generalize (sqF b).1 = b3 at *
  generalize (sqF c).1 = c3 at *
  generalize (sqF a).2 = sa at *
  generalize (sqF b).2 = sb at *
  generalize (sqF c).2 = sc at *
  generalize (Int.gcd a b : Int) = g1 at *
  generalize (Int.gcd a c : Int) = g2 at *
  generalize (Int.gcd b c : Int) = g3 at *
  obtain ⟨R, hR⟩ : ∃ R, (decide (sa = 1) && (decide (sb = 1) && (decide (sc = 1) && (decide (g1 = 1) && (decide (g2 = 1) && decide (g3 = 1)))))) = R := ⟨_, rfl⟩
  rw [hR]
  have H0 := Lib.hid (fun h : ¬ sa = 1 => (by rw [← hR, decide_eq_false h]; rfl : R = false))
  have H1 := Lib.hid (fun h : ¬ sb = 1 => (by rw [← hR, decide_eq_false h]; simp : R = false))
  have H2 := Lib.hid (fun h : ¬ sc = 1 => (by rw [← hR, decide_eq_false h]; simp : R = false))
  have H3 := Lib.hid (fun (h0 : sa = 1) (h1 : sb = 1) (h2 : sc = 1) => (by rw [← hR, decide_eq_true h0, decide_eq_true h1, decide_eq_true h2]; rfl : R = (decide (g1 = 1) && (decide (g2 = 1) && decide (g3 = 1)))))
  clear hR
  go_enter Try.func30, Try.ntmps30
  go_wp2_with (go_at_call 41; (with_reducible refine (hLs.out _).mono ?_); rintro e v1 ⟨rfl, hB1⟩; have hZ1 := hB1.size; (try simp at hZ1); (try have zl1 : w.heap.size < v1.heap.size := by omega); (try have ze1 : w.heap.size ≤ v1.heap.size := by omega); (try have zn1 : ¬ w.heap.size = v1.heap.size := by omega); (try have zm1 : ¬ v1.heap.size = w.heap.size := by omega); have hA1 : Blk v1 (w.heap.size) 25 #[.int .i64 a, .int .i64 b, .int .i64 c] := Blk.call (by (repeat (first | with_reducible assumption | (with_reducible apply Blk.new_at; (first | rfl | (simp; done))) | with_reducible apply Blk.store3 | with_reducible apply Blk.store4 | (with_reducible apply Blk.farp; (first | omega | (simp <;> omega))) | with_reducible apply Blk.allocp | with_reducible apply Blk.drew | with_reducible apply Blk.drewN))) hB1; have cA1 := hA1.cell; have fA1 := hA1.frozen; have lA1 := hA1.lt; have mA1 := Nat.ne_of_gt lA1; have nA1 := Nat.ne_of_lt lA1)
  have hb1 : Below w.heap.size w v1 := (by repeat (first | with_reducible exact Below.refl _ _ | with_reducible assumption | with_reducible apply Below.drew | with_reducible apply below_drewN | (with_reducible apply below_setp; (first | omega | (simp <;> omega))) | (with_reducible apply below_allocp; (first | omega | (simp <;> omega))) | (with_reducible refine below_viap (by assumption) ?_ ?_; (first | omega | (simp <;> omega)))))
  clear hB1
  go_loop [9] (fun vi => vi = .int .i64 0 ∨ (vi = .int .i64 1 ∧ Hid (sa = 1)) ∨ (vi = .int .i64 2 ∧ Hid (sa = 1) ∧ Hid (sb = 1)) ∨ (vi = .int .i64 3 ∧ Hid (sa = 1) ∧ Hid (sb = 1) ∧ Hid (sc = 1))) (fun vi => 3 - (intOf vi).toNat)
  case atStart => exact .inl rfl
  case round =>
    rcases hrel with rfl | ⟨rfl, e0⟩ | ⟨rfl, e0, e1⟩ | ⟨rfl, e0, e1, e2⟩
    · by_cases hs : sa = 1
      · have E := Lib.hid hs
        have hd : decide (sa > 1) = false := decide_eq_false (by omega)
        have hd2 : decide (1 < sa) = false := decide_eq_false (by omega)
        clear hs
        go_wp2_with (go_at_call 58; (with_reducible refine (hSa.out _).mono ?_); rintro e v ⟨rfl, rfl⟩)
        go_round
        case rel => exact .inr (.inl ⟨rfl, E⟩)
        case measure => simp [intOf]
      · have hd : decide (sa > 1) = true := decide_eq_true (by omega)
        have hd2 : decide (1 < sa) = true := decide_eq_true (by omega)
        have HR := Lib.hid (H0.out hs)
        clear hs
        go_wp2_with (go_at_call 58; (with_reducible refine (hSa.out _).mono ?_); rintro e v ⟨rfl, rfl⟩)
        go_ret
        exact ⟨ret_bool HR.out.symm, (by repeat (first | with_reducible exact Below.refl _ _ | with_reducible assumption | with_reducible apply Below.drew | with_reducible apply below_drewN | (with_reducible apply below_setp; (first | omega | (simp <;> omega))) | (with_reducible apply below_allocp; (first | omega | (simp <;> omega))) | (with_reducible refine below_viap (by assumption) ?_ ?_; (first | omega | (simp <;> omega)))))⟩
    · by_cases hs : sb = 1
      · have E := Lib.hid hs
        have hd : decide (sb > 1) = false := decide_eq_false (by omega)
        have hd2 : decide (1 < sb) = false := decide_eq_false (by omega)
        clear hs
        go_wp2_with (go_at_call 58; (with_reducible refine (hSb.out _).mono ?_); rintro e v ⟨rfl, rfl⟩)
        go_round
        case rel => exact .inr (.inr (.inl ⟨rfl, e0, E⟩))
        case measure => simp [intOf]
      · have hd : decide (sb > 1) = true := decide_eq_true (by omega)
        have hd2 : decide (1 < sb) = true := decide_eq_true (by omega)
        have HR := Lib.hid (H1.out hs)
        clear hs
        go_wp2_with (go_at_call 58; (with_reducible refine (hSb.out _).mono ?_); rintro e v ⟨rfl, rfl⟩)
        go_ret
        exact ⟨ret_bool HR.out.symm, (by repeat (first | with_reducible exact Below.refl _ _ | with_reducible assumption | with_reducible apply Below.drew | with_reducible apply below_drewN | (with_reducible apply below_setp; (first | omega | (simp <;> omega))) | (with_reducible apply below_allocp; (first | omega | (simp <;> omega))) | (with_reducible refine below_viap (by assumption) ?_ ?_; (first | omega | (simp <;> omega)))))⟩
    · by_cases hs : sc = 1
      · have E := Lib.hid hs
        have hd : decide (sc > 1) = false := decide_eq_false (by omega)
        have hd2 : decide (1 < sc) = false := decide_eq_false (by omega)
        clear hs
        go_wp2_with (go_at_call 58; (with_reducible refine (hSc.out _).mono ?_); rintro e v ⟨rfl, rfl⟩)
        go_round
        case rel => exact .inr (.inr (.inr ⟨rfl, e0, e1, E⟩))
        case measure => simp [intOf]
      · have hd : decide (sc > 1) = true := decide_eq_true (by omega)
        have hd2 : decide (1 < sc) = true := decide_eq_true (by omega)
        have HR := Lib.hid (H2.out hs)
        clear hs
        go_wp2_with (go_at_call 58; (with_reducible refine (hSc.out _).mono ?_); rintro e v ⟨rfl, rfl⟩)
        go_ret
        exact ⟨ret_bool HR.out.symm, (by repeat (first | with_reducible exact Below.refl _ _ | with_reducible assumption | with_reducible apply Below.drew | with_reducible apply below_drewN | (with_reducible apply below_setp; (first | omega | (simp <;> omega))) | (with_reducible apply below_allocp; (first | omega | (simp <;> omega))) | (with_reducible refine below_viap (by assumption) ?_ ?_; (first | omega | (simp <;> omega)))))⟩
    · have HR := Lib.hid (H3.out e0.out e1.out e2.out)
      clear e0 e1 e2 H0 H1 H2 H3
      by_cases q1 : g1 = 1
      · have p1 : (g1 == 1) = true := by rw [beq_iff_eq]; exact q1
        by_cases q2 : g2 = 1
        · have p2 : (g2 == 1) = true := by rw [beq_iff_eq]; exact q2
          by_cases q3 : g3 = 1
          · have p3 : (g3 == 1) = true := by rw [beq_iff_eq]; exact q3
            have HX := Lib.hid (by rw [HR.out, decide_eq_true q1, decide_eq_true q2, decide_eq_true q3]; rfl : R = true)
            clear HR q1 q2 q3
            go_wp2_with (first | (go_at_call 33; (with_reducible refine (hG1.out _).mono ?_); rintro e v ⟨rfl, nq, rfl⟩) | (go_at_call 33; (with_reducible refine (hG2.out _).mono ?_); rintro e v ⟨rfl, nq, rfl⟩) | (go_at_call 33; (with_reducible refine (hG3.out _).mono ?_); rintro e v ⟨rfl, nq, rfl⟩))
            go_ret
            exact ⟨ret_bool HX.out.symm, (by repeat (first | with_reducible exact Below.refl _ _ | with_reducible assumption | with_reducible apply Below.drew | with_reducible apply below_drewN | (with_reducible apply below_setp; (first | omega | (simp <;> omega))) | (with_reducible apply below_allocp; (first | omega | (simp <;> omega))) | (with_reducible refine below_viap (by assumption) ?_ ?_; (first | omega | (simp <;> omega)))))⟩
          · have p3 : (g3 == 1) = false := by rw [beq_eq_false_iff_ne]; exact q3
            have HX := Lib.hid (by rw [HR.out, decide_eq_true q1, decide_eq_true q2, decide_eq_false q3]; rfl : R = false)
            clear HR q1 q2 q3
            go_wp2_with (first | (go_at_call 33; (with_reducible refine (hG1.out _).mono ?_); rintro e v ⟨rfl, nq, rfl⟩) | (go_at_call 33; (with_reducible refine (hG2.out _).mono ?_); rintro e v ⟨rfl, nq, rfl⟩) | (go_at_call 33; (with_reducible refine (hG3.out _).mono ?_); rintro e v ⟨rfl, nq, rfl⟩))
            go_ret
            exact ⟨ret_bool HX.out.symm, (by repeat (first | with_reducible exact Below.refl _ _ | with_reducible assumption | with_reducible apply Below.drew | with_reducible apply below_drewN | (with_reducible apply below_setp; (first | omega | (simp <;> omega))) | (with_reducible apply below_allocp; (first | omega | (simp <;> omega))) | (with_reducible refine below_viap (by assumption) ?_ ?_; (first | omega | (simp <;> omega)))))⟩
        · have p2 : (g2 == 1) = false := by rw [beq_eq_false_iff_ne]; exact q2
          have HX := Lib.hid (by rw [HR.out, decide_eq_true q1, decide_eq_false q2]; rfl : R = false)
          clear HR q1 q2
          go_wp2_with (first | (go_at_call 33; (with_reducible refine (hG1.out _).mono ?_); rintro e v ⟨rfl, nq, rfl⟩) | (go_at_call 33; (with_reducible refine (hG2.out _).mono ?_); rintro e v ⟨rfl, nq, rfl⟩))
          go_ret
          exact ⟨ret_bool HX.out.symm, (by repeat (first | with_reducible exact Below.refl _ _ | with_reducible assumption | with_reducible apply Below.drew | with_reducible apply below_drewN | (with_reducible apply below_setp; (first | omega | (simp <;> omega))) | (with_reducible apply below_allocp; (first | omega | (simp <;> omega))) | (with_reducible refine below_viap (by assumption) ?_ ?_; (first | omega | (simp <;> omega)))))⟩
      · have p1 : (g1 == 1) = false := by rw [beq_eq_false_iff_ne]; exact q1
        have HX := Lib.hid (by rw [HR.out, decide_eq_false q1]; rfl : R = false)
        clear HR q1
        go_wp2_with (go_at_call 33; (with_reducible refine (hG1.out _).mono ?_); rintro e v ⟨rfl, nq, rfl⟩)
        go_ret
        exact ⟨ret_bool HX.out.symm, (by repeat (first | with_reducible exact Below.refl _ _ | with_reducible assumption | with_reducible apply Below.drew | with_reducible apply below_drewN | (with_reducible apply below_setp; (first | omega | (simp <;> omega))) | (with_reducible apply below_allocp; (first | omega | (simp <;> omega))) | (with_reducible refine below_viap (by assumption) ?_ ?_; (first | omega | (simp <;> omega)))))⟩

set_option maxHeartbeats 1600000 in
theorem cnFree_any (a : Int) (w : World) (h0 : a ≠ 0) (h1 : -400 ≤ a) (h2 : a ≤ 400) :
    Calls Try.prog 61 #[.int .i64 a] w fun e w' => e = .returned (.bool (decide ((sqF a).2 = 1))) ∧ w = w' := by
  have k1 := nf_ok2 h0 h1 h2
  have hS := Lib.hid (fun w => nuFree_any a w k1.1)
  clear k1
  generalize (sqF a).1 = a3 at *
  generalize (sqF a).2 = sa at *
  by_cases q : sa = 1
  · have p : (sa == 1) = true := by rw [beq_iff_eq]; exact q
    have HX := Lib.hid (decide_eq_true q)
    clear q
    go_enter Try.func61, Try.ntmps61
    go_wp2_with (go_at_call 75; (with_reducible refine (hS.out _).mono ?_); rintro e v ⟨rfl, rfl⟩)
    go_ret
    exact ⟨ret_bool HX.out.symm, rfl⟩
  · have p : (sa == 1) = false := by rw [beq_eq_false_iff_ne]; exact q
    have HX := Lib.hid (decide_eq_false q)
    clear q
    go_enter Try.func61, Try.ntmps61
    go_wp2_with (go_at_call 75; (with_reducible refine (hS.out _).mono ?_); rintro e v ⟨rfl, rfl⟩)
    go_ret
    exact ⟨ret_bool HX.out.symm, rfl⟩

set_option maxRecDepth 100000 in
set_option maxHeartbeats 6400000 in
theorem cnNormal_any (a b c : Int) (w : World) (h : TrI a b c) :
    Calls Try.prog 34 #[.agg #[.int .i64 a, .int .i64 b, .int .i64 c]] w fun e w' => e = .returned (.bool (nmB a b c)) ∧ Below w.heap.size w w' := by
  have hSa := Lib.hid (fun w => cnFree_any a w h.a0 h.a1.1 h.a1.2)
  have hSb := Lib.hid (fun w => cnFree_any b w h.b0 h.b1.1 h.b1.2)
  have hSc := Lib.hid (fun w => cnFree_any c w h.c0 h.c1.1 h.c1.2)
  have hG1 := Lib.hid (fun w => nuGcd_any a b w (by have := h.a1; omega) (by have := h.a1; omega) (by have := h.b1; omega) (by have := h.b1; omega))
  have hG2 := Lib.hid (fun w => nuGcd_any a c w (by have := h.a1; omega) (by have := h.a1; omega) (by have := h.c1; omega) (by have := h.c1; omega))
  have hG3 := Lib.hid (fun w => nuGcd_any b c w (by have := h.b1; omega) (by have := h.b1; omega) (by have := h.c1; omega) (by have := h.c1; omega))
  unfold nmB
  clear h
  generalize (Int.gcd a b : Int) = g1 at *
  generalize (Int.gcd a c : Int) = g2 at *
  generalize (Int.gcd b c : Int) = g3 at *
  have P1 := Lib.hid (show decide (g1 = 1) = (g1 == 1) by rw [Bool.eq_iff_iff, decide_eq_true_iff, beq_iff_eq])
  have P2 := Lib.hid (show decide (g2 = 1) = (g2 == 1) by rw [Bool.eq_iff_iff, decide_eq_true_iff, beq_iff_eq])
  have P3 := Lib.hid (show decide (g3 = 1) = (g3 == 1) by rw [Bool.eq_iff_iff, decide_eq_true_iff, beq_iff_eq])
  rw [P1.out, P2.out, P3.out]
  clear P1 P2 P3
  generalize decide ((sqF a).2 = 1) = f1 at *
  generalize decide ((sqF b).2 = 1) = f2 at *
  generalize decide ((sqF c).2 = 1) = f3 at *
  cases f1 with
  | false =>
    go_enter Try.func34, Try.ntmps34
    go_wp2_with (go_at_call 61; (with_reducible refine (hSa.out _).mono ?_); rintro e v ⟨rfl, rfl⟩)
    go_ret
    exact ⟨rfl, (by repeat (first | with_reducible exact Below.refl _ _ | with_reducible assumption | with_reducible apply Below.drew | with_reducible apply below_drewN | (with_reducible apply below_setp; (first | omega | (simp <;> omega))) | (with_reducible apply below_allocp; (first | omega | (simp <;> omega))) | (with_reducible refine below_viap (by assumption) ?_ ?_; (first | omega | (simp <;> omega)))))⟩
  | true =>
    cases f2 with
    | false =>
      go_enter Try.func34, Try.ntmps34
      go_wp2_with (first | (go_at_call 61; (with_reducible refine (hSa.out _).mono ?_); rintro e v ⟨rfl, rfl⟩) | (go_at_call 61; (with_reducible refine (hSb.out _).mono ?_); rintro e v ⟨rfl, rfl⟩))
      go_ret
      exact ⟨rfl, (by repeat (first | with_reducible exact Below.refl _ _ | with_reducible assumption | with_reducible apply Below.drew | with_reducible apply below_drewN | (with_reducible apply below_setp; (first | omega | (simp <;> omega))) | (with_reducible apply below_allocp; (first | omega | (simp <;> omega))) | (with_reducible refine below_viap (by assumption) ?_ ?_; (first | omega | (simp <;> omega)))))⟩
    | true =>
      cases f3 with
      | false =>
        go_enter Try.func34, Try.ntmps34
        go_wp2_with (first | (go_at_call 61; (with_reducible refine (hSa.out _).mono ?_); rintro e v ⟨rfl, rfl⟩) | (go_at_call 61; (with_reducible refine (hSb.out _).mono ?_); rintro e v ⟨rfl, rfl⟩) | (go_at_call 61; (with_reducible refine (hSc.out _).mono ?_); rintro e v ⟨rfl, rfl⟩))
        go_ret
        exact ⟨rfl, (by repeat (first | with_reducible exact Below.refl _ _ | with_reducible assumption | with_reducible apply Below.drew | with_reducible apply below_drewN | (with_reducible apply below_setp; (first | omega | (simp <;> omega))) | (with_reducible apply below_allocp; (first | omega | (simp <;> omega))) | (with_reducible refine below_viap (by assumption) ?_ ?_; (first | omega | (simp <;> omega)))))⟩
      | true =>
        cases hqg1 : (g1 == 1) with
        | false =>
          go_enter Try.func34, Try.ntmps34
          go_wp2_with (first | (go_at_call 61; (with_reducible refine (hSa.out _).mono ?_); rintro e v ⟨rfl, rfl⟩) | (go_at_call 61; (with_reducible refine (hSb.out _).mono ?_); rintro e v ⟨rfl, rfl⟩) | (go_at_call 61; (with_reducible refine (hSc.out _).mono ?_); rintro e v ⟨rfl, rfl⟩) | (go_at_call 62; (with_reducible refine (hG1.out _).mono ?_); rintro e v ⟨rfl, nq, rfl⟩))
          go_ret
          exact ⟨rfl, (by repeat (first | with_reducible exact Below.refl _ _ | with_reducible assumption | with_reducible apply Below.drew | with_reducible apply below_drewN | (with_reducible apply below_setp; (first | omega | (simp <;> omega))) | (with_reducible apply below_allocp; (first | omega | (simp <;> omega))) | (with_reducible refine below_viap (by assumption) ?_ ?_; (first | omega | (simp <;> omega)))))⟩
        | true =>
          cases hqg2 : (g2 == 1) with
          | false =>
            go_enter Try.func34, Try.ntmps34
            go_wp2_with (first | (go_at_call 61; (with_reducible refine (hSa.out _).mono ?_); rintro e v ⟨rfl, rfl⟩) | (go_at_call 61; (with_reducible refine (hSb.out _).mono ?_); rintro e v ⟨rfl, rfl⟩) | (go_at_call 61; (with_reducible refine (hSc.out _).mono ?_); rintro e v ⟨rfl, rfl⟩) | (go_at_call 62; (with_reducible refine (hG1.out _).mono ?_); rintro e v ⟨rfl, nq, rfl⟩) | (go_at_call 62; (with_reducible refine (hG2.out _).mono ?_); rintro e v ⟨rfl, nq, rfl⟩))
            go_ret
            exact ⟨rfl, (by repeat (first | with_reducible exact Below.refl _ _ | with_reducible assumption | with_reducible apply Below.drew | with_reducible apply below_drewN | (with_reducible apply below_setp; (first | omega | (simp <;> omega))) | (with_reducible apply below_allocp; (first | omega | (simp <;> omega))) | (with_reducible refine below_viap (by assumption) ?_ ?_; (first | omega | (simp <;> omega)))))⟩
          | true =>
            cases hqg3 : (g3 == 1) with
            | false =>
              go_enter Try.func34, Try.ntmps34
              go_wp2_with (first | (go_at_call 61; (with_reducible refine (hSa.out _).mono ?_); rintro e v ⟨rfl, rfl⟩) | (go_at_call 61; (with_reducible refine (hSb.out _).mono ?_); rintro e v ⟨rfl, rfl⟩) | (go_at_call 61; (with_reducible refine (hSc.out _).mono ?_); rintro e v ⟨rfl, rfl⟩) | (go_at_call 62; (with_reducible refine (hG1.out _).mono ?_); rintro e v ⟨rfl, nq, rfl⟩) | (go_at_call 62; (with_reducible refine (hG2.out _).mono ?_); rintro e v ⟨rfl, nq, rfl⟩) | (go_at_call 62; (with_reducible refine (hG3.out _).mono ?_); rintro e v ⟨rfl, nq, rfl⟩))
              go_ret
              exact ⟨rfl, (by repeat (first | with_reducible exact Below.refl _ _ | with_reducible assumption | with_reducible apply Below.drew | with_reducible apply below_drewN | (with_reducible apply below_setp; (first | omega | (simp <;> omega))) | (with_reducible apply below_allocp; (first | omega | (simp <;> omega))) | (with_reducible refine below_viap (by assumption) ?_ ?_; (first | omega | (simp <;> omega)))))⟩
            | true =>
              go_enter Try.func34, Try.ntmps34
              go_wp2_with (first | (go_at_call 61; (with_reducible refine (hSa.out _).mono ?_); rintro e v ⟨rfl, rfl⟩) | (go_at_call 61; (with_reducible refine (hSb.out _).mono ?_); rintro e v ⟨rfl, rfl⟩) | (go_at_call 61; (with_reducible refine (hSc.out _).mono ?_); rintro e v ⟨rfl, rfl⟩) | (go_at_call 62; (with_reducible refine (hG1.out _).mono ?_); rintro e v ⟨rfl, nq, rfl⟩) | (go_at_call 62; (with_reducible refine (hG2.out _).mono ?_); rintro e v ⟨rfl, nq, rfl⟩) | (go_at_call 62; (with_reducible refine (hG3.out _).mono ?_); rintro e v ⟨rfl, nq, rfl⟩))
              go_ret
              exact ⟨rfl, (by repeat (first | with_reducible exact Below.refl _ _ | with_reducible assumption | with_reducible apply Below.drew | with_reducible apply below_drewN | (with_reducible apply below_setp; (first | omega | (simp <;> omega))) | (with_reducible apply below_allocp; (first | omega | (simp <;> omega))) | (with_reducible refine below_viap (by assumption) ?_ ?_; (first | omega | (simp <;> omega)))))⟩

set_option maxHeartbeats 1600000 in
theorem implINT_any (a b c : Int) (w : World) (ha : W64 a) (hb : W64 b) (hc : W64 c) :
    Calls Try.prog 14 #[.agg #[.int .i64 a, .int .i64 b, .int .i64 c]] w fun e w' => e = .returned (.tuple #[.bool (trB a b c && nmB a b c), .bool (trB a b c)]) ∧ Below w.heap.size w w' := by
  have hI := Lib.hid (fun w => isTriple_any a b c w ha hb hc)
  cases ht : trB a b c with
  | false =>
    rw [ht] at hI
    clear ht ha hb hc
    rw [Bool.false_and]
    go_enter Try.func14, Try.ntmps14
    go_wp2_with (go_at_call 29; (with_reducible refine (hI.out _).mono ?_); rintro e v1 ⟨rfl, hB1⟩; have hZ1 := hB1.size; (try simp at hZ1); (try have zl1 : w.heap.size < v1.heap.size := by omega); (try have ze1 : w.heap.size ≤ v1.heap.size := by omega); (try have zn1 : ¬ w.heap.size = v1.heap.size := by omega); (try have zm1 : ¬ v1.heap.size = w.heap.size := by omega); have hA1 : Blk v1 (w.heap.size) 25 #[.int .i64 a, .int .i64 b, .int .i64 c] := Blk.call (by (repeat (first | with_reducible assumption | (with_reducible apply Blk.new_at; (first | rfl | (simp; done))) | with_reducible apply Blk.store3 | with_reducible apply Blk.store4 | (with_reducible apply Blk.farp; (first | omega | (simp <;> omega))) | with_reducible apply Blk.allocp | with_reducible apply Blk.drew | with_reducible apply Blk.drewN))) hB1; have cA1 := hA1.cell; have fA1 := hA1.frozen; have lA1 := hA1.lt; have mA1 := Nat.ne_of_gt lA1; have nA1 := Nat.ne_of_lt lA1)
    go_ret2
    exact ⟨rfl, (by repeat (first | with_reducible exact Below.refl _ _ | with_reducible assumption | with_reducible apply Below.drew | with_reducible apply below_drewN | (with_reducible apply below_setp; (first | omega | (simp <;> omega))) | (with_reducible apply below_allocp; (first | omega | (simp <;> omega))) | (with_reducible refine below_viap (by assumption) ?_ ?_; (first | omega | (simp <;> omega)))))⟩
  | true =>
    have hN := Lib.hid (fun w => nmT_any a b c w (trB_iff.1 ht))
    rw [ht] at hI
    clear ht ha hb hc
    rw [Bool.true_and]
    generalize nmB a b c = r at *
    go_enter Try.func14, Try.ntmps14
    go_wp2_with (first
      | (go_at_call 29; (with_reducible refine (hI.out _).mono ?_); rintro e v1 ⟨rfl, hB1⟩; have hZ1 := hB1.size; (try simp at hZ1); (try have zl1 : w.heap.size < v1.heap.size := by omega); (try have ze1 : w.heap.size ≤ v1.heap.size := by omega); (try have zn1 : ¬ w.heap.size = v1.heap.size := by omega); (try have zm1 : ¬ v1.heap.size = w.heap.size := by omega); have hA1 : Blk v1 (w.heap.size) 25 #[.int .i64 a, .int .i64 b, .int .i64 c] := Blk.call (by (repeat (first | with_reducible assumption | (with_reducible apply Blk.new_at; (first | rfl | (simp; done))) | with_reducible apply Blk.store3 | with_reducible apply Blk.store4 | (with_reducible apply Blk.farp; (first | omega | (simp <;> omega))) | with_reducible apply Blk.allocp | with_reducible apply Blk.drew | with_reducible apply Blk.drewN))) hB1; have cA1 := hA1.cell; have fA1 := hA1.frozen; have lA1 := hA1.lt; have mA1 := Nat.ne_of_gt lA1; have nA1 := Nat.ne_of_lt lA1)
      | (go_at_call 30; (with_reducible refine (hN.out _).mono ?_); rintro e v2 ⟨rfl, hB2⟩; have hZ2 := hB2.size; (try simp at hZ2); (try have zl2 : w.heap.size < v2.heap.size := by omega); (try have ze2 : w.heap.size ≤ v2.heap.size := by omega); (try have zn2 : ¬ w.heap.size = v2.heap.size := by omega); (try have zm2 : ¬ v2.heap.size = w.heap.size := by omega); have hA2 : Blk v2 (w.heap.size) 25 #[.int .i64 a, .int .i64 b, .int .i64 c] := Blk.call (by (repeat (first | with_reducible assumption | (with_reducible apply Blk.new_at; (first | rfl | (simp; done))) | with_reducible apply Blk.store3 | with_reducible apply Blk.store4 | (with_reducible apply Blk.farp; (first | omega | (simp <;> omega))) | with_reducible apply Blk.allocp | with_reducible apply Blk.drew | with_reducible apply Blk.drewN))) hB2; have cA2 := hA2.cell; have fA2 := hA2.frozen; have lA2 := hA2.lt; have mA2 := Nat.ne_of_gt lA2; have nA2 := Nat.ne_of_lt lA2))
    go_ret2
    exact ⟨rfl, (by repeat (first | with_reducible exact Below.refl _ _ | with_reducible assumption | with_reducible apply Below.drew | with_reducible apply below_drewN | (with_reducible apply below_setp; (first | omega | (simp <;> omega))) | (with_reducible apply below_allocp; (first | omega | (simp <;> omega))) | (with_reducible refine below_viap (by assumption) ?_ ?_; (first | omega | (simp <;> omega)))))⟩
end Go.Proofs.Ytdhennlanngjgaa
