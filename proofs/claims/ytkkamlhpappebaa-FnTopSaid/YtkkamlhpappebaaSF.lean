/- Contracts: the greatest power of a prime that divides. -/
import Derived.Test.YtkkamlhpappebaaSY
import Derived.Test.YtkkamlhpappebaaT5
namespace Go.Proofs.Ytkkamlhpappebaa
open Go.RowKit

def PaSt (P e r n0 : Nat) (vn vq : Value) : Prop :=
  ∃ (j N Q : Nat), vn = .int .i64 N ∧ vq = .int .i64 Q ∧ (1 ≤ N ∧ N ≤ n0) ∧ (1 ≤ Q ∧ Q ≤ n0) ∧ j ≤ e ∧ Hid (N = P ^ (e - j) * r) ∧ Hid (Q = P ^ j)

set_option maxHeartbeats 800000 in
theorem part_any (P e r n0 : Nat) (w : World) (hp : 2 ≤ P) (hp2 : P ≤ 100000) (hn : n0 = P ^ e * r) (hn1 : 1 ≤ n0) (hn2 : n0 ≤ 100000) (hr : ¬ P ∣ r) :
    Calls Try.prog 159 #[.int .i64 n0, .int .i64 P] w fun ee w' => ee = .returned (.int .i64 (P ^ e : Nat)) ∧ w = w' := by
  obtain ⟨R, hR⟩ : ∃ R, P ^ e = R := ⟨_, rfl⟩
  rw [hR]
  have HR := Lib.hid hR
  have HN := Lib.hid hn
  have Hr := Lib.hid hr
  have e5 : ¬ (P : Int) = 0 := by omega
  have e6 : ((P : Int) == 0) = false := by rw [beq_eq_false_iff_ne]; exact e5
  clear hR hn hr
  go_enter Try.func159, Try.ntmps159
  go_wp2
  go_loop [0, 5] (fun vn vq => PaSt P e r n0 vn vq) (fun vn _ => (intOf vn).toNat)
  case atStart => exact ⟨0, n0, 1, rfl, rfl, ⟨hn1, Nat.le_refl _⟩, ⟨Nat.le_refl _, hn1⟩, Nat.zero_le _, Lib.hid (by rw [HN.out]; rfl), Lib.hid (by simp)⟩
  case round =>
    obtain ⟨j, N, Q, rfl, rfl, ⟨n1, n2⟩, ⟨q1, q2⟩, hj, hN, hQ⟩ := hrel
    by_cases hd : N % P = 0
    · have hje : j < e := by
        apply Nat.not_le.1; intro hl
        have h := hN.out
        rw [show e - j = 0 by omega, Nat.pow_zero, Nat.one_mul] at h
        exact Hr.out (Nat.dvd_of_mod_eq_zero (h ▸ hd))
      have e7 : ((N : Int) % (P : Int) == 0) = true := by rw [beq_iff_eq, ← Int.natCast_emod, hd]; rfl
      have Hdv := Lib.hid (Int.natCast_ediv N P).symm
      have hP0 : 0 < P := by omega
      have hN2 : Hid (N / P = P ^ (e - (j + 1)) * r) := Lib.hid (by
        rw [hN.out, show e - j = (e - (j + 1)) + 1 by omega, Nat.pow_succ, Nat.mul_assoc, Nat.mul_comm P r, ← Nat.mul_assoc]
        exact Nat.mul_div_cancel _ hP0)
      have hge : 1 ≤ N / P := (Nat.one_le_div_iff hP0).2 (Nat.le_of_dvd (by omega) (Nat.dvd_of_mod_eq_zero hd))
      have hlt : N / P < N := Nat.div_lt_self (by omega) (by omega)
      have hQ2 : Hid (Q * P = P ^ (j + 1)) := Lib.hid (by rw [hQ.out, Nat.pow_succ])
      have hQn : Q * P ≤ n0 := by
        rw [hQ2.out, HN.out]
        refine Nat.le_trans (Nat.pow_le_pow_right hP0 hje) (Nat.le_mul_of_pos_right _ ?_)
        exact Nat.pos_of_ne_zero (fun h0 => by
          have := HN.out
          rw [h0, Nat.mul_zero] at this
          omega)
      have hQ1 : 1 ≤ Q * P := Nat.mul_pos q1 hP0
      obtain ⟨N', hN'⟩ : ∃ N', N / P = N' := ⟨_, rfl⟩
      obtain ⟨Q', hQ'⟩ : ∃ Q', Q * P = Q' := ⟨_, rfl⟩
      rw [hN'] at hN2 hge hlt Hdv
      rw [hQ'] at hQ2 hQn hQ1
      have HQ' : Hid ((Q : Int) * (P : Int) = (Q' : Int)) := Lib.hid (by rw [← hQ', Int.natCast_mul])
      have b1 : (Q : Int) * (P : Int) ≤ 100000 := by rw [HQ'.out]; omega
      have b2 : 0 ≤ (Q : Int) * (P : Int) := by rw [HQ'.out]; omega
      have b3 : (N : Int) / (P : Int) ≤ 100000 := by rw [Hdv.out]; omega
      have b4 : 0 ≤ (N : Int) / (P : Int) := by rw [Hdv.out]; omega
      clear hd hN' hQ' hN hQ
      go_wp2
      go_round
      case rel => exact ⟨j + 1, N', Q', by rw [← Hdv.out], by rw [← HQ'.out], ⟨hge, by omega⟩, ⟨hQ1, hQn⟩, hje, hN2, hQ2⟩
      case measure => rw [Hdv.out]; simp only [intOf]; omega
    · have e7 : ((N : Int) % (P : Int) == 0) = false := by rw [beq_eq_false_iff_ne]; intro h; rw [← Int.natCast_emod] at h; exact hd (by omega)
      have hx : Hid (Q = R) := Lib.hid (by
        rw [hQ.out, ← HR.out]
        by_cases hje : j < e
        · exfalso
          apply hd
          rw [hN.out, show e - j = (e - (j + 1)) + 1 by omega, Nat.pow_succ, Nat.mul_assoc, Nat.mul_comm P r, ← Nat.mul_assoc]
          exact Nat.mul_mod_left _ _
        · rw [show j = e by omega])
      clear hd hN hQ
      go_wp2
      go_ret
      exact ⟨ret_int (by rw [hx.out]), rfl⟩
end Go.Proofs.Ytkkamlhpappebaa
