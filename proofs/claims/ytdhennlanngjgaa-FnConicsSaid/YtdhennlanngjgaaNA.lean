/- Parts N2 N3 N4 laid together by tp.py. -/
import Derived.Test.YtdhennlanngjgaaCA
import Derived.Test.YtdhennlanngjgaaN1
import Derived.Deep.LoopGhost
namespace Go.Proofs.Ytdhennlanngjgaa
section
open Go.RowKit

set_option maxHeartbeats 400000 in
theorem symbolOfTwo_any (n : Int) (w : World) : Calls Try.prog 54 #[.int .i64 n] w fun e w' => e = .returned (.int .i64 (two n)) ∧ w = w' := by
  have hM := Lib.hid (fun w => mod_any n 8 w (by omega) (by omega))
  obtain ⟨t, ht⟩ : ∃ t : Int, two n = t := ⟨_, rfl⟩
  rw [ht]
  unfold two at ht
  generalize n % 8 = r at *
  by_cases h1 : r = 1
  · have hx := Lib.hid (show (1 : Int) = t by rw [← ht, if_pos (.inl h1)])
    subst h1
    clear ht
    go_enter Try.func54, Try.ntmps54
    go_wp2_with (go_at_call 52; (with_reducible refine (hM.out _).mono ?_); rintro e v ⟨rfl, rfl⟩)
    go_ret
    exact ⟨ret_int hx.out, rfl⟩
  · by_cases h7 : r = 7
    · have hx := Lib.hid (show (1 : Int) = t by rw [← ht, if_pos (.inr h7)])
      subst h7
      clear ht
      go_enter Try.func54, Try.ntmps54
      go_wp2_with (go_at_call 52; (with_reducible refine (hM.out _).mono ?_); rintro e v ⟨rfl, rfl⟩)
      go_ret
      exact ⟨ret_int hx.out, rfl⟩
    · have e1 : (r == 1) = false := by rw [beq_eq_false_iff_ne]; exact h1
      have e7 : (r == 7) = false := by rw [beq_eq_false_iff_ne]; exact h7
      have hx := Lib.hid (show -1 = t by rw [← ht, if_neg (by omega)])
      clear h1 h7 ht
      go_enter Try.func54, Try.ntmps54
      go_wp2_with (go_at_call 52; (with_reducible refine (hM.out _).mono ?_); rintro e v ⟨rfl, rfl⟩)
      go_ret
      exact ⟨ret_int hx.out, rfl⟩

theorem sg_mul {s t : Int} (hs : s = 1 ∨ s = -1) (ht : t = 1 ∨ t = -1) : s * t = 1 ∨ s * t = -1 := by
  rcases hs with rfl | rfl <;> rcases ht with rfl | rfl <;> simp
/-- The state of the outer loop. -/
def JacSt (R : Int) (va vn vs : Value) : Prop := ∃ a n s : Int, va = .int .i64 a ∧ vn = .int .i64 n ∧ vs = .int .i64 s ∧ 0 ≤ a ∧ a < n ∧ n ≤ 1000000000000000 ∧ n % 2 = 1 ∧ (-1 ≤ s ∧ s ≤ 1) ∧ Hid ((s = 1 ∨ s = -1) ∧ s * jacS a n = R)
def JacIn (R n a0 : Int) (va vs : Value) : Prop := ∃ a s : Int, va = .int .i64 a ∧ vs = .int .i64 s ∧ 0 < a ∧ a ≤ a0 ∧ (-1 ≤ s ∧ s ≤ 1) ∧ Hid ((s = 1 ∨ s = -1) ∧ s * jacS a n = R)

set_option maxHeartbeats 1600000 in
theorem jacobi_any (a n : Int) (w : World) (hn : 0 < n) (hn2 : n ≤ 1000000000000000) (ho : n % 2 = 1) :
    Calls Try.prog 55 #[.int .i64 a, .int .i64 n] w fun e w' => e = .returned (.int .i64 (jacS (a % n) n)) ∧ w = w' := by
  have h1 := Int.emod_nonneg a (show n ≠ 0 by omega)
  have h2 := Int.emod_lt_of_pos a hn
  have hM := Lib.hid (fun w => mod_any a n w hn (by omega))
  obtain ⟨R, hR⟩ : ∃ R, jacS (a % n) n = R := ⟨_, rfl⟩
  have hst := Lib.hid hR
  rw [hR]
  generalize a % n = r at *
  have ho' := Lib.hid ho
  clear hR ho
  go_enter Try.func55, Try.ntmps55
  go_wp2_with (go_at_call 52; (with_reducible refine (hM.out _).mono ?_); rintro e v ⟨rfl, rfl⟩)
  go_loop [0, 1, 5] (fun va vn vs => JacSt R va vn vs) (fun va _ _ => (intOf va).toNat)
  case atStart => exact ⟨r, n, 1, rfl, rfl, rfl, h1, h2, hn2, ho'.out, ⟨by omega, by omega⟩, Lib.hid ⟨.inl rfl, by rw [Int.one_mul]; exact hst.out⟩⟩
  case round =>
    clear h1 h2 hM hst ho' hn hn2
    obtain ⟨a, m, s, rfl, rfl, rfl, a0, am, m2, mo, ⟨s1, s2⟩, hs⟩ := hrel
    by_cases h0 : a = 0
    · subst h0
      by_cases hm1 : m = 1
      · subst hm1
        have hx := Lib.hid (show s = R by rw [← hs.out.2, jacS_zero]; simp)
        go_wp2
        go_ret
        exact ⟨ret_int hx.out, rfl⟩
      · have hx := Lib.hid (show 0 = R by rw [← hs.out.2, jacS_zero, if_neg hm1]; simp)
        have e1 : (m != 1) = true := by rw [bne_iff_ne]; exact hm1
        clear hm1
        go_wp2
        go_ret
        exact ⟨ret_int hx.out, rfl⟩
    · have e0 : (a != 0) = true := by rw [bne_iff_ne]; exact h0
      have a1 : 0 < a := by omega
      clear h0
      go_wp2
      go_loop [0, 5] (fun va vs => JacIn R m a va vs) (fun va _ => (intOf va).toNat)
      case atStart => exact ⟨a, s, rfl, rfl, a1, Int.le_refl _, ⟨s1, s2⟩, hs⟩
      case round =>
        clear hs s1 s2 e0
        obtain ⟨b, t, rfl, rfl, b0, bm, ⟨t1, t2⟩, ht⟩ := hrel
        have hT := Lib.hid (two_sg m)
        have hTw := Lib.hid (fun w => symbolOfTwo_any m w)
        by_cases hev : b % 2 = 0
        · have e1 : (b % 2 == 0) = true := by rw [beq_iff_eq]; exact hev
          have hnx : Hid ((t * two m = 1 ∨ t * two m = -1) ∧ t * two m * jacS (b / 2) m = R) := Lib.hid ⟨sg_mul ht.out.1 hT.out, by rw [← ht.out.2, jacS_even b0 hev, Int.mul_assoc]⟩
          have htm : -1 ≤ t * two m ∧ t * two m ≤ 1 := by rcases hnx.out.1 with h | h <;> rw [h] <;> omega
          obtain ⟨tm1, tm2⟩ := htm
          have b7 : 0 < b / 2 := by omega
          generalize two m = u at *
          clear hev ht hT
          go_wp2_with (go_at_call 54; (with_reducible refine (hTw.out _).mono ?_); rintro e v ⟨rfl, rfl⟩)
          go_round
          case rel => exact ⟨b / 2, t * u, rfl, rfl, by omega, by omega, ⟨tm1, tm2⟩, hnx⟩
          case measure => simp [intOf]; omega
        · have e1 : (b % 2 == 0) = false := by rw [beq_eq_false_iff_ne]; exact hev
          have q1 := Int.emod_nonneg m (show b ≠ 0 by omega)
          have q2 := Int.emod_lt_of_pos m b0
          have hnx := jacS_odd (n := m) b0 hev
          have b5 : ¬ b = 0 := by omega
          have b6 : (b == 0) = false := by rw [beq_eq_false_iff_ne]; exact b5
          have hbo : b % 2 = 1 := by omega
          have Hbo := Lib.hid hbo
          clear hbo hev hT hTw
          by_cases h3 : b % 4 = 3
          · have e3 : (b % 4 == 3) = true := by rw [beq_iff_eq]; exact h3
            by_cases h4 : m % 4 = 3
            · have e4 : (m % 4 == 3) = true := by rw [beq_iff_eq]; exact h4
              rw [if_pos ⟨h3, h4⟩] at hnx
              have hs2 : Hid ((-t = 1 ∨ -t = -1) ∧ -t * jacS (m % b) b = R) := Lib.hid ⟨by rcases ht.out.1 with h | h <;> rw [h] <;> simp, by rw [← ht.out.2, hnx]; grind⟩
              clear h3 h4 hnx ht
              go_wp2
              go_round
              case rel => exact ⟨m % b, b, -t, rfl, rfl, rfl, q1, q2, by omega, Hbo.out, ⟨by omega, by omega⟩, hs2⟩
              case measure => simp [intOf]; omega
            · have e4 : (m % 4 == 3) = false := by rw [beq_eq_false_iff_ne]; exact h4
              rw [if_neg (fun h => h4 h.2), Int.one_mul] at hnx
              have hs2 : Hid ((t = 1 ∨ t = -1) ∧ t * jacS (m % b) b = R) := Lib.hid ⟨ht.out.1, by rw [← ht.out.2, hnx]⟩
              clear h3 h4 hnx ht
              go_wp2
              go_round
              case rel => exact ⟨m % b, b, t, rfl, rfl, rfl, q1, q2, by omega, Hbo.out, ⟨by omega, by omega⟩, hs2⟩
              case measure => simp [intOf]; omega
          · have e3 : (b % 4 == 3) = false := by rw [beq_eq_false_iff_ne]; exact h3
            rw [if_neg (fun h => h3 h.1), Int.one_mul] at hnx
            have hs2 : Hid ((t = 1 ∨ t = -1) ∧ t * jacS (m % b) b = R) := Lib.hid ⟨ht.out.1, by rw [← ht.out.2, hnx]⟩
            clear h3 hnx ht
            go_wp2
            go_round
            case rel => exact ⟨m % b, b, t, rfl, rfl, rfl, q1, q2, by omega, Hbo.out, ⟨by omega, by omega⟩, hs2⟩
            case measure => simp [intOf]; omega

set_option maxHeartbeats 400000 in
theorem l1In_any (k a b : Int) (w : World) : Calls Try.prog 69 #[.int .i64 k, .int .i64 a, .int .i64 b] w fun e w' => e = .returned (.bool (decide (a ≤ k) && decide (k ≤ b))) ∧ w = w' := by
  by_cases h : a ≤ k
  · go_enter Try.func69, Try.ntmps69
    go_wp2
    go_ret
    exact ⟨ret_bool (by first | (simp; done) | (simp; omega) | (rw [Bool.eq_iff_iff]; simp; omega) | (simp_all; done) | (simp_all; omega)), rfl⟩
  · go_enter Try.func69, Try.ntmps69
    go_wp2
    go_ret
    exact ⟨ret_bool (by first | (simp; done) | (simp; omega) | (rw [Bool.eq_iff_iff]; simp; omega) | (simp_all; done) | (simp_all; omega)), rfl⟩
end

section
open Go.RowKit

end

section
open Go.RowKit

/-- How many steps are to come. -/
def muJ (t b : Int) : Nat := if 0 ≤ t ∧ t < b then (2 * t).toNat else (2 * b - 1).toNat
theorem muJ_red {t b : Int} (hb : 0 < b) (h : ¬ (0 ≤ t ∧ t < b)) : muJ (t % b) b < muJ t b := by
  have h1 := Int.emod_nonneg t (show b ≠ 0 by omega)
  have h2 := Int.emod_lt_of_pos t hb
  unfold muJ; rw [if_neg h, if_pos ⟨h1, h2⟩]; omega
theorem muJ_even {t b : Int} (h0 : 0 < t) (h1 : t < b) : muJ (t / 2) b < muJ t b := by
  unfold muJ; rw [if_pos (show 0 ≤ t / 2 ∧ t / 2 < b by omega), if_pos (show 0 ≤ t ∧ t < b by omega)]; omega
theorem muJ_odd {t b : Int} (h0 : 0 < t) (h1 : t < b) : muJ b t < muJ t b := by
  unfold muJ; rw [if_neg (show ¬ (0 ≤ b ∧ b < t) by omega), if_pos (show 0 ≤ t ∧ t < b by omega)]; omega
end
end Go.Proofs.Ytdhennlanngjgaa
