/- Contracts: the inverse modulo m, Bezout's coefficients. -/
import Derived.Test.YtifkmjmhhklkjaaC9
import Derived.Test.YtifkmjmhhklkjaaM16
namespace Go.Proofs.Ytifkmjmhhklkjaa
open Go.RowKit

/-- What comes back: an inverse modulo m, up to the greatest common divisor. -/
def RetInv (a m : Int) (w : World) (e : Ending) (w' : World) : Prop := ∃ v : Int, e = .returned (.int .i64 v) ∧ (0 ≤ v ∧ v < m) ∧ Hid (m ∣ Int.gcd a m - a * v) ∧ w = w'
def InvW (a m : Int) (k : Nat) (vr vs vx vy : Value) : Prop := ∃ r s x y : Int, vr = .int .i64 r ∧ vs = .int .i64 s ∧ vx = .int .i64 x ∧ vy = .int .i64 y ∧ s.toNat = k ∧ InvSt a m r s x y

set_option maxHeartbeats 800000 in
theorem inverse_any (a m : Int) (w : World) (hm : 0 < m) (hm2 : m ≤ 1000000000000000) : Calls Try.prog 167 #[.int .i64 a, .int .i64 m] w (RetInv a m w) := by
  have h1 := Int.emod_nonneg a (show m ≠ 0 by omega)
  have h2 := Int.emod_lt_of_pos a hm
  have hst := Lib.hid (InvSt.start1 (a := a) hm)
  go_enter Try.func167, Try.ntmps167
  go_wp2_with (go_at_call 89; (with_reducible refine (mod_any _ _ _ hm (by omega)).mono ?_); rintro e v ⟨rfl, rfl⟩)
  go_loop [5, 6, 7, 8, 9] (fun x y r s _ => ∃ k, InvW a m k r s x y) (fun _ _ _ s _ => (intOf s).toNat)
  case atStart => exact ⟨_, _, _, _, _, rfl, rfl, rfl, rfl, rfl, hst.out⟩
  case round =>
    obtain ⟨k, r, s, x, y, rfl, rfl, rfl, rfl, hk, hs⟩ := hrel
    obtain ⟨x1, x2⟩ := hs.xb
    obtain ⟨y1, y2⟩ := hs.yb
    have r0 := hs.r0; have rm := hs.rm; have s0 := hs.s0; have sm := hs.sm
    have Hs := Lib.hid hs
    clear hs hst hk
    by_cases h0 : s = 0
    · subst h0
      have hd := Lib.hid Hs.out.done
      have h3 := Int.emod_nonneg x (show m ≠ 0 by omega)
      have h4 := Int.emod_lt_of_pos x hm
      go_wp2_with (go_at_call 89; (with_reducible refine (mod_any _ _ _ hm (by omega)).mono ?_); rintro e v ⟨rfl, rfl⟩)
      go_ret
      exact ⟨_, rfl, ⟨h3, h4⟩, hd, rfl⟩
    · have hn := Lib.hid (Hs.out.step (by omega))
      have e1 : (s == 0) = false := by rw [beq_eq_false_iff_ne]; exact h0
      have e2 : (s != 0) = true := by rw [bne_iff_ne]; exact h0
      have e3 : r.tdiv s = r / s := Int.tdiv_eq_ediv_of_nonneg r0
      have q0 : 0 ≤ r / s := Int.ediv_nonneg r0 s0
      have q1 : r / s ≤ r := Int.ediv_le_self _ r0
      obtain ⟨n1, n2, n3, n4, _, _, _, n5, n6, _⟩ := hn.out
      have q2 : r / s * s ≤ r := by have := Int.emod_add_mul_ediv r s; have := Int.emod_nonneg r h0; rw [Int.mul_comm] ; omega
      have q3 : 0 ≤ r / s * s := Int.mul_nonneg q0 s0
      have n7 : r - r / s * s < s := by have := Int.emod_add_mul_ediv r s; have := Int.emod_lt_of_pos r (show 0 < s by omega); rw [Int.mul_comm (r / s)]; omega
      have w1 : -(2 * m) ≤ r / s * y ∧ r / s * y ≤ 2 * m := by omega
      obtain ⟨w1, w2⟩ := w1
      clear h0
      go_wp2
      go_round
      case rel => exact ⟨_, _, _, _, _, rfl, rfl, rfl, rfl, rfl, hn.out⟩
      case measure => simp [intOf]; omega

set_option maxHeartbeats 800000 in
theorem nuInverse_any (a m : Int) (w : World) (hm : 0 < m) (hm2 : m ≤ 1000000000000000) (hg : Int.gcd a m = 1) : Calls Try.prog 163 #[.int .i64 a, .int .i64 m] w (RetInv a m w) := by
  have h1 := Int.emod_nonneg a (show m ≠ 0 by omega)
  have h2 := Int.emod_lt_of_pos a hm
  have hst := Lib.hid (InvSt.start2 (a := a) hm)
  have Hg := Lib.hid hg
  clear hg
  go_enter Try.func163, Try.ntmps163
  go_wp2_with (go_at_call 86; (with_reducible refine (nuMod_any _ _ _ hm (by omega)).mono ?_); rintro e v ⟨rfl, rfl⟩)
  go_loop [5, 6, 7, 8, 9] (fun r s x y _ => ∃ k, InvW a m k r s x y) (fun _ s _ _ _ => (intOf s).toNat)
  case atStart => exact ⟨_, _, _, _, _, rfl, rfl, rfl, rfl, rfl, hst.out⟩
  case round =>
    obtain ⟨k, r, s, x, y, rfl, rfl, rfl, rfl, hk, hs⟩ := hrel
    obtain ⟨x1, x2⟩ := hs.xb
    obtain ⟨y1, y2⟩ := hs.yb
    have r0 := hs.r0; have rm := hs.rm; have s0 := hs.s0; have sm := hs.sm
    have Hs := Lib.hid hs
    clear hs hst hk
    by_cases h0 : s = 0
    · subst h0
      have hd := Lib.hid Hs.out.done
      have h3 := Int.emod_nonneg x (show m ≠ 0 by omega)
      have h4 := Int.emod_lt_of_pos x hm
      have hr1 : r = 1 := by
        have := Hs.out.g
        rw [Hg.out] at this
        simp at this; omega
      subst hr1
      go_wp2_with (go_at_call 86; (with_reducible refine (nuMod_any _ _ _ hm (by omega)).mono ?_); rintro e v ⟨rfl, rfl⟩)
      go_ret
      exact ⟨_, rfl, ⟨h3, h4⟩, hd, rfl⟩
    · have hn := Lib.hid (Hs.out.step (by omega))
      have e1 : (s == 0) = false := by rw [beq_eq_false_iff_ne]; exact h0
      have e2 : (s != 0) = true := by rw [bne_iff_ne]; exact h0
      have e3 : r.tdiv s = r / s := Int.tdiv_eq_ediv_of_nonneg r0
      have q0 : 0 ≤ r / s := Int.ediv_nonneg r0 s0
      have q1 : r / s ≤ r := Int.ediv_le_self _ r0
      obtain ⟨n1, n2, n3, n4, _, _, _, n5, n6, _⟩ := hn.out
      have q2 : r / s * s ≤ r := by have := Int.emod_add_mul_ediv r s; have := Int.emod_nonneg r h0; rw [Int.mul_comm] ; omega
      have q3 : 0 ≤ r / s * s := Int.mul_nonneg q0 s0
      have n7 : r - r / s * s < s := by have := Int.emod_add_mul_ediv r s; have := Int.emod_lt_of_pos r (show 0 < s by omega); rw [Int.mul_comm (r / s)]; omega
      have w1 : -(2 * m) ≤ r / s * y ∧ r / s * y ≤ 2 * m := by omega
      obtain ⟨w1, w2⟩ := w1
      clear h0
      go_wp2
      go_round
      case rel => exact ⟨_, _, _, _, _, rfl, rfl, rfl, rfl, rfl, hn.out⟩
      case measure => simp [intOf]; omega
end Go.Proofs.Ytifkmjmhhklkjaa
