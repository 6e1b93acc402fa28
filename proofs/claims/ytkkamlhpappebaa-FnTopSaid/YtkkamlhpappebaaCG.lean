/- Contracts: the square-free part, the fundamental part, the Kronecker symbol, the factor of the conductor, the class number by the conductor, of the program. -/
import Derived.Test.YtkkamlhpappebaaCE
namespace Go.Proofs.Ytkkamlhpappebaa
open Go.RowKit

def SqSt (R : Int × Int) (w : World) (m : Nat) (v0 v4 v5 : Value) (wr : World) : Prop :=
  ∃ n k p : Int, v0 = .int .i64 n ∧ v4 = .int .i64 k ∧ v5 = .int .i64 p ∧ Hid (sqfT m false p n k = true) ∧ Hid (sqf m false p n k = R) ∧ w = wr
def SqIn (R : Int × Int) (w : World) (p : Int) (m0 m : Nat) (v0 v4 : Value) (wr : World) : Prop :=
  ∃ n k : Int, v0 = .int .i64 n ∧ v4 = .int .i64 k ∧ m ≤ m0 ∧ Hid (sqfT m true p n k = true) ∧ Hid (sqf m true p n k = R) ∧ w = wr
theorem sqfT_in {m : Nat} {b : Bool} {p n k : Int} (h : sqfT m b p n k = true) : ∃ m', m = m' + 1 ∧ (2 ≤ p ∧ p ≤ 60) ∧ (-2000 ≤ n ∧ n ≤ -1) ∧ 1 ≤ k ∧ k ≤ 60 := by
  cases m with
  | zero => cases b <;> simp [sqfT] at h
  | succ m =>
    refine ⟨m, rfl, ?_⟩
    cases b <;> (simp only [sqfT, Bool.and_eq_true, decide_eq_true_eq] at h; obtain ⟨⟨⟨⟨⟨⟨a, b⟩, c⟩, d⟩, e⟩, f⟩, _⟩ := h; exact ⟨⟨a, b⟩, ⟨c, d⟩, e, f⟩)
theorem psq_bd {p : Int} (h1 : 2 ≤ p) (h2 : p ≤ 60) : 4 ≤ p * p ∧ p * p ≤ 3600 :=
  ⟨Int.mul_le_mul h1 h1 (by omega) (by omega), Int.mul_le_mul h2 h2 (by omega) (by omega)⟩

set_option maxRecDepth 100000 in
set_option maxHeartbeats 1600000 in
theorem squareFree_any (d : Int) (w : World) (hT : sqfT 4100 false 2 d 1 = true) :
    Calls Try.prog 165 #[.int .i64 d] w fun e w' => e = .returned (.tuple #[.int .i64 (sqF d).1, .int .i64 (sqF d).2]) ∧ w = w' := by
  have hA := Lib.hid abs_any
  obtain ⟨R, hR⟩ : ∃ R, sqF d = R := ⟨_, rfl⟩
  have HR := Lib.hid (show sqf 4100 false 2 d 1 = R from hR)
  have HT := Lib.hid hT
  rw [hR]
  clear hR hT
  go_enter Try.func165, Try.ntmps165
  go_wp2
  go_loopg [0, 4, 5] 4100 (fun m v0 v4 v5 wr => SqSt R w m v0 v4 v5 wr)
  case atStart => exact ⟨d, 1, 2, rfl, rfl, rfl, HT, HR, rfl⟩
  case round =>
    clear HT HR
    obtain ⟨n, k, p, rfl, rfl, rfl, hT, hR, rfl⟩ := hrel
    obtain ⟨m, rfl, ⟨p1, p2⟩, ⟨n1, n2⟩, k1, k2⟩ := sqfT_in hT.out
    obtain ⟨q1, q2⟩ := psq_bd p1 p2
    have hw1 : wrap64 (p * p) = p * p := IntWalk.wrap64_in _ (by omega)
    have hAn := Lib.hid (fun w => hA.out n w (by omega) (by omega))
    have hT2 := hT.out
    have hR2 := hR.out
    by_cases hle : p * p ≤ (n.natAbs : Int)
    · simp only [sqfT, sqf, if_pos hle, Bool.and_eq_true] at hT2 hR2
      have HT2 := Lib.hid hT2.2
      have HR2 := Lib.hid hR2
      clear hT2 hR2 hT hR
      go_wp2_with (go_at_call 123; (with_reducible refine (hAn.out _).mono ?_); rintro e v ⟨rfl, rfl⟩)
      go_loopg [0, 4] m (fun m1 v0 v4 wr => SqIn R w p m m1 v0 v4 wr)
      case atStart => exact ⟨n, k, rfl, rfl, Nat.le_refl _, HT2, HR2, rfl⟩
      case round =>
        clear HT2 HR2 n1 n2 k1 k2 hle hAn
        obtain ⟨n, k, rfl, rfl, hm, hT, hR, rfl⟩ := hrel
        obtain ⟨m2, rfl, _, ⟨n1, n2⟩, k1, k2⟩ := sqfT_in hT.out
        have hT2 := hT.out
        have hR2 := hR.out
        have hz : ¬ p * p = 0 := by omega
        by_cases ht : n.tmod (p * p) = 0
        · simp only [sqfT, sqf, if_pos ht, Bool.and_eq_true] at hT2 hR2
          have HT2 := Lib.hid hT2.2
          have HR2 := Lib.hid hR2
          obtain ⟨m3, hm3, _, ⟨u1, u2⟩, u3, u4⟩ := sqfT_in hT2.2
          have hw2 : wrap64 (n.tdiv (p * p)) = n.tdiv (p * p) := IntWalk.wrap64_in _ (by omega)
          have hw3 : wrap64 (k * p) = k * p := IntWalk.wrap64_in _ (by omega)
          clear hT2 hR2 hT hR hm3
          go_wp2
          go_roundg m2
          case measure => omega
          case rel => exact ⟨_, _, rfl, rfl, by omega, HT2, HR2, rfl⟩
        · simp only [sqfT, sqf, if_neg ht, Bool.and_eq_true] at hT2 hR2
          have HT2 := Lib.hid hT2.2
          have HR2 := Lib.hid hR2
          have htd : (n.tmod (p * p) == 0) = false := by rw [beq_eq_false_iff_ne]; exact ht
          have hw4 : wrap64 (p + 1) = p + 1 := IntWalk.wrap64_in _ (by omega)
          clear hT2 hR2 hT hR
          go_wp2
          go_roundg m2
          case measure => omega
          case rel => exact ⟨_, _, _, rfl, rfl, rfl, HT2, HR2, rfl⟩
    · simp only [sqf, if_neg hle] at hR2
      have hled : decide (p * p ≤ (n.natAbs : Int)) = false := decide_eq_false hle
      subst hR2
      clear hT2 hT hR
      go_wp2_with (go_at_call 123; (with_reducible refine (hAn.out _).mono ?_); rintro e v ⟨rfl, rfl⟩)
      go_ret2
      exact ⟨rfl, rfl⟩

set_option maxHeartbeats 800000 in
theorem fundamental_any (d : Int) (w : World) (h : CeP d) :
    Calls Try.prog 85 #[.int .i64 d] w fun e w' => e = .returned (.tuple #[.int .i64 (dsp d).1, .int .i64 (dsp d).2]) ∧ w = w' := by
  have hS := Lib.hid (fun w => squareFree_any d w h.sq)
  have h1 := h.s1; have h2 := h.s2; have h3 := h.k1; have h4 := h.k2
  unfold dsp
  generalize sqF d = R at *
  obtain ⟨s, k⟩ := R
  dsimp only at *
  have hM := Lib.hid (fun w => mod_any s 4 w (by omega) (by omega))
  clear h
  by_cases hs : s % 4 = 1
  · rw [if_pos hs]
    rw [hs] at hM
    go_enter Try.func85, Try.ntmps85
    go_wp2_with (first | (go_at_call 165; (with_reducible refine (hS.out _).mono ?_); rintro e v ⟨rfl, rfl⟩) | (go_at_call 147; (with_reducible refine (hM.out _).mono ?_); rintro e v ⟨rfl, rfl⟩))
    go_ret2
    exact ⟨rfl, rfl⟩
  · rw [if_neg hs]
    have hne : (s % 4 != 1) = true := by rw [bne_iff_ne]; exact hs
    have ht : k.tdiv 2 = k / 2 := Int.tdiv_eq_ediv_of_nonneg h3
    have hw1 : wrap64 (4 * s) = 4 * s := IntWalk.wrap64_in _ (by omega)
    have hw2 : wrap64 (k / 2) = k / 2 := IntWalk.wrap64_in _ (by omega)
    generalize s % 4 = x at *
    go_enter Try.func85, Try.ntmps85
    go_wp2_with (first | (go_at_call 165; (with_reducible refine (hS.out _).mono ?_); rintro e v ⟨rfl, rfl⟩) | (go_at_call 147; (with_reducible refine (hM.out _).mono ?_); rintro e v ⟨rfl, rfl⟩))
    go_ret2
    exact ⟨rfl, rfl⟩
end Go.Proofs.Ytkkamlhpappebaa
