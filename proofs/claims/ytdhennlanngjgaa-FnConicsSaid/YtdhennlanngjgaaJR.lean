/- Contracts: the Hilbert symbol, the places where it is -1, of the program (written by gen_JR.py). -/
import Derived.Test.YtdhennlanngjgaaJI
import Derived.Test.YtdhennlanngjgaaJO
namespace Go.Proofs.Ytdhennlanngjgaa
open Go.RowKit

set_option maxHeartbeats 800000 in
theorem signPower_any (s k : Int) (w : World) : Calls Try.prog 53 #[.int .i64 s, .int .i64 k] w fun e w' => e = .returned (.int .i64 (spw s k)) ∧ w = w' := by
  have e : k.tmod 2 = 0 ↔ k % 2 = 0 := by rw [← Int.dvd_iff_tmod_eq_zero, Int.dvd_iff_emod_eq_zero]
  by_cases h : k % 2 = 0
  · have h1 : (k.tmod 2 == 0) = true := by rw [beq_iff_eq]; exact e.2 h
    have h2 : spw s k = s ∨ spw s k = 1 := .inr (by unfold spw; rw [if_pos h])
    have h3 := Lib.hid (show 1 = spw s k by unfold spw; rw [if_pos h])
    clear e h h2
    go_enter Try.func53, Try.ntmps53
    go_wp2
    go_ret
    exact ⟨ret_int h3.out, rfl⟩
  · have h1 : (k.tmod 2 == 0) = false := by rw [beq_eq_false_iff_ne]; exact fun h2 => h (e.1 h2)
    have h3 := Lib.hid (show s = spw s k by unfold spw; rw [if_neg h])
    clear e h
    go_enter Try.func53, Try.ntmps53
    go_wp2
    go_ret
    exact ⟨ret_int h3.out, rfl⟩
theorem spw_pm {s k : Int} (h : s = 1 ∨ s = -1) : spw s k = 1 ∨ spw s k = -1 := by
  unfold spw; split
  · exact .inl rfl
  · exact h
/-- The division by the prime, step by step. -/
theorem dv_step {p u : Int} {J i : Nat} (hp : 2 ≤ p) (hi : i < J) : (p ^ (J - i) * u).tdiv p = p ^ (J - (i + 1)) * u := by
  obtain ⟨k, hk⟩ : ∃ k, J - i = k + 1 := ⟨J - i - 1, by omega⟩
  rw [hk, show J - (i + 1) = k by omega, Int.pow_succ]
  have e : p ^ k * p * u = p * (p ^ k * u) := by grind
  rw [e, Int.mul_tdiv_cancel_left _ (by omega)]
theorem dv_le {x p M : Int} (h1 : -M ≤ x) (h2 : x ≤ M) : -M ≤ x.tdiv p ∧ x.tdiv p ≤ M := by
  have e : (x.tdiv p).natAbs = x.natAbs / p.natAbs := Int.natAbs_tdiv x p
  have h : x.natAbs / p.natAbs ≤ x.natAbs := Nat.div_le_self _ _
  omega
/-- What the symbol needs of its two numbers. -/
structure HbD (a b p : Int) : Prop where
  a0 : a ≠ 0
  b0 : b ≠ 0
  a1 : -1000000 ≤ a ∧ a ≤ 1000000
  b1 : -1000000 ≤ b ∧ b ≤ 1000000
  hp : p = 0 ∨ PrI p ∧ p ≤ 1000000
def DvSt (u p J : Int) (vi va : Value) : Prop := ∃ (i : Nat) (x : Int), vi = .int .i64 i ∧ va = .int .i64 x ∧ (i : Int) ≤ J ∧ (-1000000 ≤ x ∧ x ≤ 1000000) ∧ Hid (x = p ^ (J.toNat - i) * u)
theorem dv_next {u p J x : Int} {i : Nat} (hp : 2 ≤ p) (hi : (i : Int) < J) (h : x = p ^ (J.toNat - i) * u) : x.tdiv p = p ^ (J.toNat - (i + 1)) * u := by
  rw [h]; exact dv_step hp (by omega)
theorem dv_end {u p J x : Int} {i : Nat} (hi : (i : Int) ≤ J) (hn : ¬ (i : Int) < J) (h : x = p ^ (J.toNat - i) * u) : x = u := by
  rw [show J.toNat - i = 0 by omega] at h
  simpa using h
theorem tm_two {k : Int} (h : 0 ≤ k) : k.tmod 2 = k % 2 := Int.tmod_eq_emod_of_nonneg h
theorem tm_four {k : Int} (h : 0 ≤ k) : k.tmod 4 = k % 4 := Int.tmod_eq_emod_of_nonneg h

set_option maxRecDepth 100000 in
set_option maxHeartbeats 25600000 in
theorem hilbert_any (a b p : Int) (w : World) (h : HbD a b p) : Calls Try.prog 27 #[.int .i64 a, .int .i64 b, .int .i64 p] w fun e w' => e = .returned (.int .i64 (hlS a b p)) ∧ w = w' := by
  obtain ⟨a0, b0, a1, b1, hp⟩ := h
  by_cases p0 : p = 0
  · subst p0
    obtain ⟨R, hR⟩ : ∃ R, hlS a b 0 = R := ⟨_, rfl⟩
    rw [hR]
    have hR2 : (if a < 0 ∧ b < 0 then (-1 : Int) else 1) = R := by rw [← hR]; unfold hlS; rw [if_pos rfl]
    clear hR a0 b0 a1 b1 hp
    by_cases q1 : a < 0
    · have d1 := decide_eq_true q1
      by_cases q2 : b < 0
      · have d2 := decide_eq_true q2
        rw [if_pos ⟨q1, q2⟩] at hR2
        have HR := Lib.hid hR2
        clear hR2 q1 q2
        go_enter Try.func27, Try.ntmps27
        go_wp2
        go_ret
        exact ⟨ret_int HR.out, rfl⟩
      · have d2 := decide_eq_false q2
        rw [if_neg (fun h => q2 h.2)] at hR2
        have HR := Lib.hid hR2
        clear hR2 q1 q2
        go_enter Try.func27, Try.ntmps27
        go_wp2
        go_ret
        exact ⟨ret_int HR.out, rfl⟩
    · have d1 := decide_eq_false q1
      rw [if_neg (fun h => q1 h.1)] at hR2
      have HR := Lib.hid hR2
      clear hR2 q1
      go_enter Try.func27, Try.ntmps27
      go_wp2
      go_ret
      exact ⟨ret_int HR.out, rfl⟩
  obtain ⟨pr, pM⟩ : PrI p ∧ p ≤ 1000000 := hp.resolve_left p0
  have p2 := pr.1
  have p0' : (p == 0) = false := by rw [beq_eq_false_iff_ne]; exact p0
  have hEa := Lib.hid (fun w => exponentA_any a p w a0 (by omega) p2 (by omega))
  have hEb := Lib.hid (fun w => exponentA_any b p w b0 (by omega) p2 (by omega))
  by_cases pt : p = 2
  · subst pt
    obtain ⟨ea, na⟩ := rsP_eq (p := 2) (by omega) a0
    obtain ⟨eb, nb⟩ := rsP_eq (p := 2) (by omega) b0
    have J0 := exA_nn 2 a
    have K0 := exA_nn 2 b
    have J1 := exA_bd (p := 2) (x := a) (by omega)
    have K1 := exA_bd (p := 2) (x := b) (by omega)
    obtain ⟨S, hS⟩ : ∃ S, hlS a b 2 = S := ⟨_, rfl⟩
    rw [hS]
    unfold hlS at hS
    rw [if_neg p0, if_pos rfl] at hS
    generalize rsP 2 a = u at *
    generalize rsP 2 b = v at *
    generalize exA 2 a = J at *
    generalize exA 2 b = K at *
    have hM1 := Lib.hid (fun w => mod_any u 4 w (by omega) (by omega))
    have hM2 := Lib.hid (fun w => mod_any v 4 w (by omega) (by omega))
    have hT1 := Lib.hid (fun w => symbolOfTwo_any u w)
    have hT2 := Lib.hid (fun w => symbolOfTwo_any v w)
    have hP1 := Lib.hid (fun w => signPower_any (two u) K w)
    have hP2 := Lib.hid (fun w => signPower_any (two v) J w)
    have hs1 := spw_pm (k := K) (two_sg u)
    have hs2 := spw_pm (k := J) (two_sg v)
    have hS := Lib.hid hS
    have HA := Lib.hid (show a = 2 ^ (J.toNat - 0) * u from ea)
    have HB := Lib.hid (show b = 2 ^ (K.toNat - 0) * v from eb)
    generalize spw (two u) K = s1 at *
    generalize spw (two v) J = s2 at *
    generalize two u = t1 at *
    generalize two v = t2 at *
    clear ea eb na nb pr p0 p0' pM hp
    go_enter Try.func27, Try.ntmps27
    go_wp2_with (first | (go_at_call 43; (with_reducible refine (hEa.out _).mono ?_); rintro e v ⟨rfl, rfl⟩) | (go_at_call 43; (with_reducible refine (hEb.out _).mono ?_); rintro e v ⟨rfl, rfl⟩))
    go_loop [9, 0] (fun vi va => DvSt u 2 J vi va) (fun vi _ => (J - intOf vi).toNat)
    case atStart => exact ⟨0, a, rfl, rfl, J0, a1, HA⟩
    case round =>
      clear HA
      obtain ⟨i, x, rfl, rfl, hi, hx, hh⟩ := hrel
      by_cases hlt : (i : Int) < J
      · have hs := Lib.hid (dv_next (by omega) hlt hh.out)
        have hb := dv_le (p := 2) hx.1 hx.2
        have hw : wrap64 (x.tdiv 2) = x.tdiv 2 := IntWalk.wrap64_in _ (by omega)
        have hy : -1000000 ≤ x.tdiv 2 ∧ x.tdiv 2 ≤ 1000000 := hb
        clear hh hb
        go_wp2
        go_round
        case rel => exact ⟨i + 1, x.tdiv 2, by go_num, rfl, by omega, hy, hs⟩
        case measure => simp [intOf]; omega
      · obtain rfl : u = x := (dv_end hi hlt hh.out).symm
        have hld : decide ((i : Int) < J) = false := decide_eq_false hlt
        clear hh hx
        obtain ⟨IJ, hIJ⟩ : ∃ I : Int, (i : Int) = I := ⟨_, rfl⟩
        rw [hIJ] at hld ⊢
        clear hIJ hi hlt
        go_wp2
        go_loop [10, 1] (fun vi va => DvSt v 2 K vi va) (fun vi _ => (K - intOf vi).toNat)
        case atStart => exact ⟨0, b, rfl, rfl, K0, b1, HB⟩
        case round =>
          clear HB
          obtain ⟨i, x, rfl, rfl, hi, hx, hh⟩ := hrel
          by_cases hlt : (i : Int) < K
          · have hs := Lib.hid (dv_next (by omega) hlt hh.out)
            have hb := dv_le (p := 2) hx.1 hx.2
            have hw : wrap64 (x.tdiv 2) = x.tdiv 2 := IntWalk.wrap64_in _ (by omega)
            have hy : -1000000 ≤ x.tdiv 2 ∧ x.tdiv 2 ≤ 1000000 := hb
            clear hh hb
            go_wp2
            go_round
            case rel => exact ⟨i + 1, x.tdiv 2, by go_num, rfl, by omega, hy, hs⟩
            case measure => simp [intOf]; omega
          · obtain rfl : v = x := (dv_end hi hlt hh.out).symm
            have hld : decide ((i : Int) < K) = false := decide_eq_false hlt
            clear hh hx
            obtain ⟨IK, hIK⟩ : ∃ I : Int, (i : Int) = I := ⟨_, rfl⟩
            rw [hIK] at hld ⊢
            clear hIK hi hlt
            by_cases c1 : u % 4 = 3
            · have b0 : (u % 4 == 3) = true := by rw [beq_iff_eq]; exact c1
              by_cases c2 : v % 4 = 3
              · have b1 : (v % 4 == 3) = true := by rw [beq_iff_eq]; exact c2
                have HX := Lib.hid (hS.out.symm.trans (by rw [if_pos ⟨c1, c2⟩] : _ = (-1) * s1 * s2))
                clear hS c1 c2
                rcases hs1 with rfl | rfl <;> rcases hs2 with rfl | rfl
                all_goals
                  go_wp2_with (first | (go_at_call 52; (with_reducible refine (hM1.out _).mono ?_); rintro e v ⟨rfl, rfl⟩) | (go_at_call 52; (with_reducible refine (hM2.out _).mono ?_); rintro e v ⟨rfl, rfl⟩) | (go_at_call 54; (with_reducible refine (hT1.out _).mono ?_); rintro e v ⟨rfl, rfl⟩) | (go_at_call 54; (with_reducible refine (hT2.out _).mono ?_); rintro e v ⟨rfl, rfl⟩) | (go_at_call 53; (with_reducible refine (hP1.out _).mono ?_); rintro e v ⟨rfl, rfl⟩) | (go_at_call 53; (with_reducible refine (hP2.out _).mono ?_); rintro e v ⟨rfl, rfl⟩))
                  go_ret
                  exact ⟨ret_int HX.out.symm, rfl⟩
              · have b1 : (v % 4 == 3) = false := by rw [beq_eq_false_iff_ne]; exact c2
                have hno : ¬ (u % 4 = 3 ∧ v % 4 = 3) := fun h => c2 h.2
                have HX := Lib.hid (hS.out.symm.trans (by rw [if_neg (fun h => hno h)] : _ = 1 * s1 * s2))
                clear hS c1 c2 hno
                rcases hs1 with rfl | rfl <;> rcases hs2 with rfl | rfl
                all_goals
                  go_wp2_with (first | (go_at_call 52; (with_reducible refine (hM1.out _).mono ?_); rintro e v ⟨rfl, rfl⟩) | (go_at_call 52; (with_reducible refine (hM2.out _).mono ?_); rintro e v ⟨rfl, rfl⟩) | (go_at_call 54; (with_reducible refine (hT1.out _).mono ?_); rintro e v ⟨rfl, rfl⟩) | (go_at_call 54; (with_reducible refine (hT2.out _).mono ?_); rintro e v ⟨rfl, rfl⟩) | (go_at_call 53; (with_reducible refine (hP1.out _).mono ?_); rintro e v ⟨rfl, rfl⟩) | (go_at_call 53; (with_reducible refine (hP2.out _).mono ?_); rintro e v ⟨rfl, rfl⟩))
                  go_ret
                  exact ⟨ret_int HX.out.symm, rfl⟩
            · have b0 : (u % 4 == 3) = false := by rw [beq_eq_false_iff_ne]; exact c1
              have hno : ¬ (u % 4 = 3 ∧ v % 4 = 3) := fun h => c1 h.1
              have HX := Lib.hid (hS.out.symm.trans (by rw [if_neg (fun h => hno h)] : _ = 1 * s1 * s2))
              clear hS c1 hno
              rcases hs1 with rfl | rfl <;> rcases hs2 with rfl | rfl
              all_goals
                go_wp2_with (first | (go_at_call 52; (with_reducible refine (hM1.out _).mono ?_); rintro e v ⟨rfl, rfl⟩) | (go_at_call 52; (with_reducible refine (hM2.out _).mono ?_); rintro e v ⟨rfl, rfl⟩) | (go_at_call 54; (with_reducible refine (hT1.out _).mono ?_); rintro e v ⟨rfl, rfl⟩) | (go_at_call 54; (with_reducible refine (hT2.out _).mono ?_); rintro e v ⟨rfl, rfl⟩) | (go_at_call 53; (with_reducible refine (hP1.out _).mono ?_); rintro e v ⟨rfl, rfl⟩) | (go_at_call 53; (with_reducible refine (hP2.out _).mono ?_); rintro e v ⟨rfl, rfl⟩))
                go_ret
                exact ⟨ret_int HX.out.symm, rfl⟩
  · obtain ⟨ea, na⟩ := rsP_eq p2 a0
    obtain ⟨eb, nb⟩ := rsP_eq p2 b0
    have J0 := exA_nn p a
    have K0 := exA_nn p b
    have J1 := exA_bd (p := p) (x := a) (by omega)
    have K1 := exA_bd (p := p) (x := b) (by omega)
    obtain ⟨g, OD⟩ := OdP.ex pr (by omega)
    have po : p % 2 = 1 := by have := OD.eq; omega
    have pt' : (p == 2) = false := by rw [beq_eq_false_iff_ne]; exact pt
    obtain ⟨S, hS⟩ : ∃ S, hlS a b p = S := ⟨_, rfl⟩
    rw [hS]
    unfold hlS at hS
    rw [if_neg p0, if_neg pt] at hS
    generalize rsP p a = u at *
    generalize rsP p b = v at *
    generalize exA p a = J at *
    generalize exA p b = K at *
    have hT1 := Lib.hid (fun w => (show Calls Try.prog 55 #[.int .i64 u, .int .i64 p] w fun e w' => e = .returned (.int .i64 (chi p u)) ∧ w = w' from jacobi_any u p w (by omega) (by omega) po))
    have hT2 := Lib.hid (fun w => (show Calls Try.prog 55 #[.int .i64 v, .int .i64 p] w fun e w' => e = .returned (.int .i64 (chi p v)) ∧ w = w' from jacobi_any v p w (by omega) (by omega) po))
    have hP1 := Lib.hid (fun w => signPower_any (chi p u) K w)
    have hP2 := Lib.hid (fun w => signPower_any (chi p v) J w)
    have hs1 := spw_pm (k := K) (OD.chi_pm na)
    have hs2 := spw_pm (k := J) (OD.chi_pm nb)
    have hS := Lib.hid hS
    have HA := Lib.hid (show a = p ^ (J.toNat - 0) * u from ea)
    have HB := Lib.hid (show b = p ^ (K.toNat - 0) * v from eb)
    generalize spw (chi p u) K = s1 at *
    generalize spw (chi p v) J = s2 at *
    generalize chi p u = t1 at *
    generalize chi p v = t2 at *
    clear ea eb na nb pr p0 hp OD po pt
    go_enter Try.func27, Try.ntmps27
    go_wp2_with (first | (go_at_call 43; (with_reducible refine (hEa.out _).mono ?_); rintro e v ⟨rfl, rfl⟩) | (go_at_call 43; (with_reducible refine (hEb.out _).mono ?_); rintro e v ⟨rfl, rfl⟩))
    go_loop [9, 0] (fun vi va => DvSt u p J vi va) (fun vi _ => (J - intOf vi).toNat)
    case atStart => exact ⟨0, a, rfl, rfl, J0, a1, HA⟩
    case round =>
      clear HA
      obtain ⟨i, x, rfl, rfl, hi, hx, hh⟩ := hrel
      by_cases hlt : (i : Int) < J
      · have hs := Lib.hid (dv_next p2 hlt hh.out)
        have hb := dv_le (p := p) hx.1 hx.2
        have hw : wrap64 (x.tdiv p) = x.tdiv p := IntWalk.wrap64_in _ (by omega)
        have hy : -1000000 ≤ x.tdiv p ∧ x.tdiv p ≤ 1000000 := hb
        clear hh hb
        go_wp2
        go_round
        case rel => exact ⟨i + 1, x.tdiv p, by go_num, rfl, by omega, hy, hs⟩
        case measure => simp [intOf]; omega
      · obtain rfl : u = x := (dv_end hi hlt hh.out).symm
        have hld : decide ((i : Int) < J) = false := decide_eq_false hlt
        clear hh hx
        obtain ⟨IJ, hIJ⟩ : ∃ I : Int, (i : Int) = I := ⟨_, rfl⟩
        rw [hIJ] at hld ⊢
        clear hIJ hi hlt
        go_wp2
        go_loop [10, 1] (fun vi va => DvSt v p K vi va) (fun vi _ => (K - intOf vi).toNat)
        case atStart => exact ⟨0, b, rfl, rfl, K0, b1, HB⟩
        case round =>
          clear HB
          obtain ⟨i, x, rfl, rfl, hi, hx, hh⟩ := hrel
          by_cases hlt : (i : Int) < K
          · have hs := Lib.hid (dv_next p2 hlt hh.out)
            have hb := dv_le (p := p) hx.1 hx.2
            have hw : wrap64 (x.tdiv p) = x.tdiv p := IntWalk.wrap64_in _ (by omega)
            have hy : -1000000 ≤ x.tdiv p ∧ x.tdiv p ≤ 1000000 := hb
            clear hh hb
            go_wp2
            go_round
            case rel => exact ⟨i + 1, x.tdiv p, by go_num, rfl, by omega, hy, hs⟩
            case measure => simp [intOf]; omega
          · obtain rfl : v = x := (dv_end hi hlt hh.out).symm
            have hld : decide ((i : Int) < K) = false := decide_eq_false hlt
            clear hh hx
            obtain ⟨IK, hIK⟩ : ∃ I : Int, (i : Int) = I := ⟨_, rfl⟩
            rw [hIK] at hld ⊢
            clear hIK hi hlt
            by_cases c1 : J % 2 = 1
            · have b0 : (J % 2 == 1) = true := by rw [beq_iff_eq]; exact c1
              by_cases c2 : K % 2 = 1
              · have b1 : (K % 2 == 1) = true := by rw [beq_iff_eq]; exact c2
                by_cases c3 : p % 4 = 3
                · have b2 : (p % 4 == 3) = true := by rw [beq_iff_eq]; exact c3
                  have HX := Lib.hid (hS.out.symm.trans (by rw [if_pos ⟨c1, c2, c3⟩] : _ = (-1) * s1 * s2))
                  clear hS c1 c2 c3
                  rcases hs1 with rfl | rfl <;> rcases hs2 with rfl | rfl
                  all_goals
                    go_wp2_with (first | (go_at_call 55; (with_reducible refine (hT1.out _).mono ?_); rintro e v ⟨rfl, rfl⟩) | (go_at_call 55; (with_reducible refine (hT2.out _).mono ?_); rintro e v ⟨rfl, rfl⟩) | (go_at_call 53; (with_reducible refine (hP1.out _).mono ?_); rintro e v ⟨rfl, rfl⟩) | (go_at_call 53; (with_reducible refine (hP2.out _).mono ?_); rintro e v ⟨rfl, rfl⟩))
                    go_ret
                    exact ⟨ret_int HX.out.symm, rfl⟩
                · have b2 : (p % 4 == 3) = false := by rw [beq_eq_false_iff_ne]; exact c3
                  have hno : ¬ (J % 2 = 1 ∧ K % 2 = 1 ∧ p % 4 = 3) := fun h => c3 h.2.2
                  have HX := Lib.hid (hS.out.symm.trans (by rw [if_neg (fun h => hno h)] : _ = 1 * s1 * s2))
                  clear hS c1 c2 c3 hno
                  rcases hs1 with rfl | rfl <;> rcases hs2 with rfl | rfl
                  all_goals
                    go_wp2_with (first | (go_at_call 55; (with_reducible refine (hT1.out _).mono ?_); rintro e v ⟨rfl, rfl⟩) | (go_at_call 55; (with_reducible refine (hT2.out _).mono ?_); rintro e v ⟨rfl, rfl⟩) | (go_at_call 53; (with_reducible refine (hP1.out _).mono ?_); rintro e v ⟨rfl, rfl⟩) | (go_at_call 53; (with_reducible refine (hP2.out _).mono ?_); rintro e v ⟨rfl, rfl⟩))
                    go_ret
                    exact ⟨ret_int HX.out.symm, rfl⟩
              · have b1 : (K % 2 == 1) = false := by rw [beq_eq_false_iff_ne]; exact c2
                have hno : ¬ (J % 2 = 1 ∧ K % 2 = 1 ∧ p % 4 = 3) := fun h => c2 h.2.1
                have HX := Lib.hid (hS.out.symm.trans (by rw [if_neg (fun h => hno h)] : _ = 1 * s1 * s2))
                clear hS c1 c2 hno
                rcases hs1 with rfl | rfl <;> rcases hs2 with rfl | rfl
                all_goals
                  go_wp2_with (first | (go_at_call 55; (with_reducible refine (hT1.out _).mono ?_); rintro e v ⟨rfl, rfl⟩) | (go_at_call 55; (with_reducible refine (hT2.out _).mono ?_); rintro e v ⟨rfl, rfl⟩) | (go_at_call 53; (with_reducible refine (hP1.out _).mono ?_); rintro e v ⟨rfl, rfl⟩) | (go_at_call 53; (with_reducible refine (hP2.out _).mono ?_); rintro e v ⟨rfl, rfl⟩))
                  go_ret
                  exact ⟨ret_int HX.out.symm, rfl⟩
            · have b0 : (J % 2 == 1) = false := by rw [beq_eq_false_iff_ne]; exact c1
              have hno : ¬ (J % 2 = 1 ∧ K % 2 = 1 ∧ p % 4 = 3) := fun h => c1 h.1
              have HX := Lib.hid (hS.out.symm.trans (by rw [if_neg (fun h => hno h)] : _ = 1 * s1 * s2))
              clear hS c1 hno
              rcases hs1 with rfl | rfl <;> rcases hs2 with rfl | rfl
              all_goals
                go_wp2_with (first | (go_at_call 55; (with_reducible refine (hT1.out _).mono ?_); rintro e v ⟨rfl, rfl⟩) | (go_at_call 55; (with_reducible refine (hT2.out _).mono ?_); rintro e v ⟨rfl, rfl⟩) | (go_at_call 53; (with_reducible refine (hP1.out _).mono ?_); rintro e v ⟨rfl, rfl⟩) | (go_at_call 53; (with_reducible refine (hP2.out _).mono ?_); rintro e v ⟨rfl, rfl⟩))
                go_ret
                exact ⟨ret_int HX.out.symm, rfl⟩
end Go.Proofs.Ytdhennlanngjgaa
