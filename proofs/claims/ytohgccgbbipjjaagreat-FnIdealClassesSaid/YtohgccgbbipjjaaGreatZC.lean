/- Contracts: fundamental discriminants of the reference; whole ideals and their classes, of both sides (written by gen_ZC.py). -/
import Derived.Test.YtohgccgbbipjjaaGreatR9
import Derived.Test.YtohgccgbbipjjaaGreatFN
import Derived.Test.YtohgccgbbipjjaaGreatIC
namespace Go.Proofs.YtohgccgbbipjjaaGreat
open Go.RowKit

set_option maxRecDepth 100000 in
set_option maxHeartbeats 1600000 in
theorem nuFree_any (d : Int) (w : World) (hT : sqfT 4100 false 2 d 1 = true) :
    Calls Tryz.prog 122 #[.int .i64 d] w fun e w' => e = .returned (.tuple #[.int .i64 (sqF d).1, .int .i64 (sqF d).2]) ∧ w = w' := by
  have hA := Lib.hid l1Abs_any
  obtain ⟨R, hR⟩ : ∃ R, sqF d = R := ⟨_, rfl⟩
  have HR := Lib.hid (show sqf 4100 false 2 d 1 = R from hR)
  have HT := Lib.hid hT
  rw [hR]
  clear hR hT
  go_enter Tryz.func122, Tryz.ntmps122
  go_wp2
  go_loopg [0, 4, 5] 4100 (fun m v0 v4 v5 wr => SqSt R w m v0 v4 v5 wr)
  case atStart => exact ⟨d, 1, 2, rfl, rfl, rfl, HT, HR, rfl⟩
  case round =>
    clear HT HR
    obtain ⟨n, k, p, rfl, rfl, rfl, hT, hR, rfl⟩ := hrel
    obtain ⟨m, rfl, ⟨p1, p2⟩, ⟨n1, n2⟩, k1, k2⟩ := sqfT_in hT.out
    obtain ⟨q1, q2⟩ := psq_bd p1 p2
    have hw1 : wrap64 (p * p) = p * p := IntWalk.wrap64_in _ (by omega)
    have hAn := Lib.hid (fun w => hA.out n w (by omega) (by omega))
    have hT2 := hT.out
    have hR2 := hR.out
    by_cases hle : p * p ≤ (n.natAbs : Int)
    · simp only [sqfT, sqf, if_pos hle, Bool.and_eq_true] at hT2 hR2
      have HT2 := Lib.hid hT2.2
      have HR2 := Lib.hid hR2
      clear hT2 hR2 hT hR
      go_wp2_with (go_at_call 107; (with_reducible refine (hAn.out _).mono ?_); rintro e v ⟨rfl, rfl⟩)
      go_loopg [0, 4] m (fun m1 v0 v4 wr => SqIn R w p m m1 v0 v4 wr)
      case atStart => exact ⟨n, k, rfl, rfl, Nat.le_refl _, HT2, HR2, rfl⟩
      case round =>
        clear HT2 HR2 n1 n2 k1 k2 hle hAn
        obtain ⟨n, k, rfl, rfl, hm, hT, hR, rfl⟩ := hrel
        obtain ⟨m2, rfl, _, ⟨n1, n2⟩, k1, k2⟩ := sqfT_in hT.out
        have hT2 := hT.out
        have hR2 := hR.out
        have hz : ¬ p * p = 0 := by omega
        by_cases ht : n.tmod (p * p) = 0
        · have htd : (n.tmod (p * p) == 0) = true := by rw [beq_iff_eq]; exact ht
          simp only [sqfT, sqf, if_pos ht, Bool.and_eq_true] at hT2 hR2
          have HT2 := Lib.hid hT2.2
          have HR2 := Lib.hid hR2
          obtain ⟨m3, hm3, _, ⟨u1, u2⟩, u3, u4⟩ := sqfT_in hT2.2
          have hw2 : wrap64 (n.tdiv (p * p)) = n.tdiv (p * p) := IntWalk.wrap64_in _ (by omega)
          have hw3 : wrap64 (k * p) = k * p := IntWalk.wrap64_in _ (by omega)
          clear hT2 hR2 hT hR hm3
          go_wp2
          go_roundg m2
          case measure => omega
          case rel => exact ⟨_, _, rfl, rfl, by omega, HT2, HR2, rfl⟩
        · simp only [sqfT, sqf, if_neg ht, Bool.and_eq_true] at hT2 hR2
          have HT2 := Lib.hid hT2.2
          have HR2 := Lib.hid hR2
          have htd : (n.tmod (p * p) == 0) = false := by rw [beq_eq_false_iff_ne]; exact ht
          have hw4 : wrap64 (p + 1) = p + 1 := IntWalk.wrap64_in _ (by omega)
          clear hT2 hR2 hT hR
          go_wp2
          go_roundg m2
          case measure => omega
          case rel => exact ⟨_, _, _, rfl, rfl, rfl, HT2, HR2, rfl⟩
    · simp only [sqf, if_neg hle] at hR2
      have hled : decide (p * p ≤ (n.natAbs : Int)) = false := decide_eq_false hle
      subst hR2
      clear hT2 hT hR
      go_wp2_with (go_at_call 107; (with_reducible refine (hAn.out _).mono ?_); rintro e v ⟨rfl, rfl⟩)
      go_ret2
      exact ⟨rfl, rfl⟩

set_option maxHeartbeats 800000 in
theorem diSplit_any (d : Int) (w : World) (h : FuP d) :
    Calls Tryz.prog 102 #[.int .i64 d] w fun e w' => e = .returned (.tuple #[.int .i64 (dsp d).1, .int .i64 (dsp d).2]) ∧ w = w' := by
  have hS := Lib.hid (fun w => nuFree_any d w h.sq)
  have h1 := h.s1; have h2 := h.s2; have h3 := h.k1; have h4 := h.k2
  unfold dsp
  generalize sqF d = R at *
  obtain ⟨s, k⟩ := R
  dsimp only at *
  have hM := Lib.hid (fun w => nuMod_any s 4 w (by omega) (by omega))
  clear h
  by_cases hs : s % 4 = 1
  · rw [if_pos hs]
    rw [hs] at hM
    go_enter Tryz.func102, Tryz.ntmps102
    go_wp2_with (first | (go_at_call 122; (with_reducible refine (hS.out _).mono ?_); rintro e v ⟨rfl, rfl⟩) | (go_at_call 58; (with_reducible refine (hM.out _).mono ?_); rintro e v ⟨rfl, rfl⟩))
    go_ret2
    exact ⟨rfl, rfl⟩
  · rw [if_neg hs]
    have hne : (s % 4 == 1) = false := by rw [beq_eq_false_iff_ne]; exact hs
    have ht : k.tdiv 2 = k / 2 := Int.tdiv_eq_ediv_of_nonneg h3
    have hw1 : wrap64 (4 * s) = 4 * s := IntWalk.wrap64_in _ (by omega)
    have hw2 : wrap64 (k / 2) = k / 2 := IntWalk.wrap64_in _ (by omega)
    generalize s % 4 = x at *
    go_enter Tryz.func102, Tryz.ntmps102
    go_wp2_with (first | (go_at_call 122; (with_reducible refine (hS.out _).mono ?_); rintro e v ⟨rfl, rfl⟩) | (go_at_call 58; (with_reducible refine (hM.out _).mono ?_); rintro e v ⟨rfl, rfl⟩))
    go_ret2
    exact ⟨rfl, rfl⟩
/-- Whether a number is a negative fundamental discriminant. -/
def piB (d : Int) : Bool := isDisc d && decide ((dsp d).2 = 1)
theorem rt_of {n r : Int} (hn : 0 ≤ n) (h0 : 0 ≤ r) (h1 : r * r ≤ n) (h2 : n < (r + 1) * (r + 1)) : rt n = r := by
  have a := (rt_cmp hn h0).1 h1
  have b : ¬ r + 1 ≤ rt n := fun h => by
    have := (rt_cmp hn (show 0 ≤ r + 1 by omega)).2 h
    omega
  omega
set_option maxHeartbeats 800000 in
theorem nuSquare_any (n : Int) (w : World) (h1 : n ≤ 1000000) : Calls Tryz.prog 121 #[.int .i64 n] w fun e w' => e = .returned (.bool (sqB n)) ∧ w = w' := by
  by_cases h0 : n < 0
  · have hb : sqB n = false := by unfold sqB; rw [decide_eq_false (show ¬ 0 ≤ n by omega)]; rfl
    rw [hb]
    go_enter Tryz.func121, Tryz.ntmps121
    go_wp2
    go_ret
    exact ⟨rfl, rfl⟩
  · have hR := Lib.hid (fun w => nuRoot_any n w (by omega) (by omega))
    go_enter Tryz.func121, Tryz.ntmps121
    go_wp2_with fail
    refine (hR.out _).mono ?_
    rintro e v ⟨⟨r, rfl, r0, r1, r2, r3⟩, rfl⟩
    have hr : r = rt n := (rt_of (by omega) r0 r2 r3).symm
    have hb : sqB n = decide (r * r = n) := by unfold sqB; rw [decide_eq_true (show 0 ≤ n by omega), ← hr]; rfl
    have rb : r ≤ 1000 := by
      apply Int.not_lt.1; intro hl
      have := Int.mul_le_mul (show (1001 : Int) ≤ r by omega) (show (1001 : Int) ≤ r by omega) (by omega) (by omega)
      omega
    have rr := Int.mul_le_mul rb rb r0 (by omega)
    have hw : wrap64 (r * r) = r * r := IntWalk.wrap64_in _ (by have := Int.mul_nonneg r0 r0; omega)
    have HB := Lib.hid hb
    clear hb hr r2 r3 rr r1
    by_cases hq : r * r = n
    · have hq' : (r * r == n) = true := by rw [beq_iff_eq]; exact hq
      have HQ := Lib.hid (decide_eq_true hq)
      clear hq
      go_wp2
      go_ret
      exact ⟨by rw [HB.out, HQ.out]; rfl, rfl⟩
    · have hq' : (r * r == n) = false := by rw [beq_eq_false_iff_ne]; exact hq
      have HQ := Lib.hid (decide_eq_false hq)
      clear hq
      go_wp2
      go_ret
      exact ⟨by rw [HB.out, HQ.out]; rfl, rfl⟩
set_option maxHeartbeats 800000 in
theorem diIs_any (d : Int) (w : World) (h : d ≤ 1000) : Calls Tryz.prog 101 #[.int .i64 d] w fun e w' => e = .returned (.bool (dcB d)) ∧ w = w' := by
  have hG := Lib.hid (fun w => nuGood_any d w)
  have hM := Lib.hid (fun w => nuMod_any d 4 w (by omega) (by omega))
  have hS := Lib.hid (fun w => nuSquare_any d w (by omega))
  have h0 := Int.emod_nonneg d (show (4 : Int) ≠ 0 by omega)
  unfold dcB
  generalize d % 4 = m at *
  generalize isNum d = x at *
  generalize sqB d = y at *
  by_cases hm : m ≤ 1
  · have hm2 : m < 2 := by omega
    rw [decide_eq_true hm]
    cases x with
    | false =>
      go_enter Tryz.func101, Tryz.ntmps101
      go_wp2_with (go_at_call 120; (with_reducible refine (hG.out _).mono ?_); rintro e v ⟨rfl, rfl⟩)
      go_ret
      exact ⟨rfl, rfl⟩
    | true =>
      cases y <;> (go_enter Tryz.func101, Tryz.ntmps101; go_wp2_with (first | (go_at_call 120; (with_reducible refine (hG.out _).mono ?_); rintro e v ⟨rfl, rfl⟩) | (go_at_call 58; (with_reducible refine (hM.out _).mono ?_); rintro e v ⟨rfl, rfl⟩) | (go_at_call 121; (with_reducible refine (hS.out _).mono ?_); rintro e v ⟨rfl, rfl⟩)); go_ret; exact ⟨rfl, rfl⟩)
  · have hm2 : ¬ m < 2 := by omega
    rw [decide_eq_false hm]
    cases x with
    | false =>
      go_enter Tryz.func101, Tryz.ntmps101
      go_wp2_with (go_at_call 120; (with_reducible refine (hG.out _).mono ?_); rintro e v ⟨rfl, rfl⟩)
      go_ret
      exact ⟨rfl, rfl⟩
    | true =>
      go_enter Tryz.func101, Tryz.ntmps101
      go_wp2_with (first | (go_at_call 120; (with_reducible refine (hG.out _).mono ?_); rintro e v ⟨rfl, rfl⟩) | (go_at_call 58; (with_reducible refine (hM.out _).mono ?_); rintro e v ⟨rfl, rfl⟩))
      go_ret
      exact ⟨rfl, rfl⟩
set_option maxHeartbeats 800000 in
theorem isFunS_any (d : Int) (w : World) (h : DrawnE d) : Calls Tryz.prog 75 #[.int .i64 d] w fun e w' => e = .returned (.tuple #[.bool (dcB d && decide ((dsp d).2 = 1)), .bool (dcB d)]) ∧ w = w' := by
  have hD := Lib.hid (fun w => diIs_any d w (by rcases h with h | h <;> omega))
  cases hc : dcB d with
  | false =>
    rw [hc] at hD
    go_enter Tryz.func75, Tryz.ntmps75
    go_wp2_with (go_at_call 101; (with_reducible refine (hD.out _).mono ?_); rintro e v ⟨rfl, rfl⟩)
    go_ret2
    exact ⟨rfl, rfl⟩
  | true =>
    have F := dcB_of h hc
    rw [hc] at hD
    have hS := Lib.hid (fun w => diSplit_any d w F)
    clear F h hc
    generalize (dsp d).1 = s at *
    generalize (dsp d).2 = k at *
    by_cases hk : k = 1
    · have hk' : (k == 1) = true := by rw [beq_iff_eq]; exact hk
      rw [decide_eq_true hk]
      clear hk
      go_enter Tryz.func75, Tryz.ntmps75
      go_wp2_with (first | (go_at_call 101; (with_reducible refine (hD.out _).mono ?_); rintro e v ⟨rfl, rfl⟩) | (go_at_call 102; (with_reducible refine (hS.out _).mono ?_); rintro e v ⟨rfl, rfl⟩))
      go_ret2
      exact ⟨rfl, rfl⟩
    · have hk' : (k == 1) = false := by rw [beq_eq_false_iff_ne]; exact hk
      rw [decide_eq_false hk]
      clear hk
      go_enter Tryz.func75, Tryz.ntmps75
      go_wp2_with (first | (go_at_call 101; (with_reducible refine (hD.out _).mono ?_); rintro e v ⟨rfl, rfl⟩) | (go_at_call 102; (with_reducible refine (hS.out _).mono ?_); rintro e v ⟨rfl, rfl⟩))
      go_ret2
      exact ⟨rfl, rfl⟩
set_option maxHeartbeats 800000 in
theorem piDisc_any (d : Int) (w : World) (h : DrawnE d) : Calls Tryz.prog 37 #[.int .i64 d] w fun e w' => e = .returned (.bool (piB d)) ∧ w = w' := by
  have hF := Lib.hid (fun w => isFunS_any d w h)
  have hR := Lib.hid (fun w => reDisc_any d w)
  unfold piB
  have himp := dcB_disc (d := d)
  generalize decide ((dsp d).2 = 1) = y at *
  cases hx : isDisc d with
  | false =>
    rw [hx] at hR
    clear himp hx h
    cases hc : dcB d with
    | false =>
      rw [hc] at hF
      clear hc
      go_enter Tryz.func37, Tryz.ntmps37
      go_wp2_with (go_at_call 75; (with_reducible refine (hF.out _).mono ?_); rintro e v ⟨rfl, rfl⟩)
      go_ret
      exact ⟨rfl, rfl⟩
    | true =>
      rw [hc] at hF
      clear hc
      cases y <;> (go_enter Tryz.func37, Tryz.ntmps37; go_wp2_with (first | (go_at_call 75; (with_reducible refine (hF.out _).mono ?_); rintro e v ⟨rfl, rfl⟩) | (go_at_call 56; (with_reducible refine (hR.out _).mono ?_); rintro e v ⟨rfl, rfl⟩)); go_ret; exact ⟨rfl, rfl⟩)
  | true =>
    rw [himp hx] at hF
    rw [hx] at hR
    clear himp hx h
    cases y <;> (go_enter Tryz.func37, Tryz.ntmps37; go_wp2_with (first | (go_at_call 75; (with_reducible refine (hF.out _).mono ?_); rintro e v ⟨rfl, rfl⟩) | (go_at_call 56; (with_reducible refine (hR.out _).mono ?_); rintro e v ⟨rfl, rfl⟩)); go_ret; exact ⟨rfl, rfl⟩)
set_option maxHeartbeats 800000 in
theorem piGood_any (d e a b : Int) (w : World) (h : DrawnE d) : Calls Tryz.prog 22 #[.int .i64 d, .agg #[.int .i64 e, .int .i64 a, .int .i64 b]] w fun x w' => x = .returned (.bool (piB d && idB d e a b)) ∧ Below w.heap.size w w' := by
  have hP := Lib.hid (fun w => piDisc_any d w h)
  have hI := Lib.hid (fun w => idGood_any d e a b w)
  clear h
  generalize piB d = x at *
  generalize idB d e a b = y at *
  cases x <;> cases y <;> (go_enter Tryz.func22, Tryz.ntmps22; go_wp2_with (first | (go_at_call 37; (with_reducible refine (hP.out _).mono ?_); rintro e v ⟨rfl, rfl⟩) | (go_at_call 25; (with_reducible refine (hI.out _).mono ?_); rintro e v1 ⟨rfl, hB1⟩; have hZ1 := hB1.size; (try simp at hZ1); (try have zl1 : w.heap.size < v1.heap.size := by omega); (try have ze1 : w.heap.size ≤ v1.heap.size := by omega); (try have zn1 : ¬ w.heap.size = v1.heap.size := by omega); (try have zm1 : ¬ v1.heap.size = w.heap.size := by omega); have hX1 : Blk v1 (w.heap.size) 25 #[.int .i64 e, .int .i64 a, .int .i64 b] := Blk.call (by (repeat (first | with_reducible assumption | (with_reducible apply Blk.new_at; (first | rfl | (simp; done))) | with_reducible apply Blk.store3 | with_reducible apply Blk.store4 | (with_reducible apply Blk.farp; (first | omega | (simp <;> omega))) | with_reducible apply Blk.allocp | with_reducible apply Blk.drew | with_reducible apply Blk.drewN))) hB1; have cX1 := hX1.cell; have fX1 := hX1.frozen; have lX1 := hX1.lt; have mX1 := Nat.ne_of_gt lX1; have nX1 := Nat.ne_of_lt lX1)); go_ret; exact ⟨rfl, (by repeat (first | with_reducible exact Below.refl _ _ | with_reducible assumption | with_reducible apply Below.drew | with_reducible apply below_drewN | (with_reducible apply below_setp; (first | omega | (simp <;> omega))) | (with_reducible apply below_allocp; (first | omega | (simp <;> omega))) | (with_reducible refine below_viap (by assumption) ?_ ?_; (first | omega | (simp <;> omega)))))⟩)
set_option maxHeartbeats 800000 in
theorem isFN_any (d : Int) (w : World) : Calls Tryz.prog 65 #[.int .i64 d] w fun e w' => e = .returned (.bool (piB d)) ∧ w = w' := by
  have hN := Lib.hid (fun w => isNegativeDisc_any d w)
  unfold piB
  cases hx : isDisc d with
  | false =>
    rw [hx] at hN
    go_enter Tryz.func65, Tryz.ntmps65
    go_wp2_with (go_at_call 53; (with_reducible refine (hN.out _).mono ?_); rintro e v ⟨rfl, rfl⟩)
    go_ret
    exact ⟨rfl, rfl⟩
  | true =>
    rw [hx] at hN
    have F : FuP d := fuP_neg (by unfold isDisc at hx; simp only [Bool.and_eq_true, decide_eq_true_eq] at hx; omega) (by unfold isDisc at hx; simp only [Bool.and_eq_true, decide_eq_true_eq] at hx; omega)
    have hS := Lib.hid (fun w => fundamental_any d w F)
    clear F hx
    generalize (dsp d).1 = s at *
    generalize (dsp d).2 = k at *
    by_cases hk : k = 1
    · have hk' : (k == 1) = true := by rw [beq_iff_eq]; exact hk
      rw [decide_eq_true hk]
      clear hk
      go_enter Tryz.func65, Tryz.ntmps65
      go_wp2_with (first | (go_at_call 53; (with_reducible refine (hN.out _).mono ?_); rintro e v ⟨rfl, rfl⟩) | (go_at_call 89; (with_reducible refine (hS.out _).mono ?_); rintro e v ⟨rfl, rfl⟩))
      go_ret
      exact ⟨rfl, rfl⟩
    · have hk' : (k == 1) = false := by rw [beq_eq_false_iff_ne]; exact hk
      rw [decide_eq_false hk]
      clear hk
      go_enter Tryz.func65, Tryz.ntmps65
      go_wp2_with (first | (go_at_call 53; (with_reducible refine (hN.out _).mono ?_); rintro e v ⟨rfl, rfl⟩) | (go_at_call 89; (with_reducible refine (hS.out _).mono ?_); rintro e v ⟨rfl, rfl⟩))
      go_ret
      exact ⟨rfl, rfl⟩
set_option maxHeartbeats 800000 in
theorem isWhole_any (d e a b : Int) (w : World) : Calls Tryz.prog 26 #[.int .i64 d, .agg #[.int .i64 e, .int .i64 a, .int .i64 b]] w fun x w' => x = .returned (.bool (piB d && idB d e a b)) ∧ Below w.heap.size w w' := by
  have hP := Lib.hid (fun w => isFN_any d w)
  have hI := Lib.hid (fun w => isIdeal_any d e a b w)
  generalize piB d = x at *
  generalize idB d e a b = y at *
  cases x <;> cases y <;> (go_enter Tryz.func26, Tryz.ntmps26; go_wp2_with (first | (go_at_call 65; (with_reducible refine (hP.out _).mono ?_); rintro e v ⟨rfl, rfl⟩) | (go_at_call 66; (with_reducible refine (hI.out _).mono ?_); rintro e v1 ⟨rfl, hB1⟩; have hZ1 := hB1.size; (try simp at hZ1); (try have zl1 : w.heap.size < v1.heap.size := by omega); (try have ze1 : w.heap.size ≤ v1.heap.size := by omega); (try have zn1 : ¬ w.heap.size = v1.heap.size := by omega); (try have zm1 : ¬ v1.heap.size = w.heap.size := by omega); have hX1 : Blk v1 (w.heap.size) 25 #[.int .i64 e, .int .i64 a, .int .i64 b] := Blk.call (by (repeat (first | with_reducible assumption | (with_reducible apply Blk.new_at; (first | rfl | (simp; done))) | with_reducible apply Blk.store3 | with_reducible apply Blk.store4 | (with_reducible apply Blk.farp; (first | omega | (simp <;> omega))) | with_reducible apply Blk.allocp | with_reducible apply Blk.drew | with_reducible apply Blk.drewN))) hB1; have cX1 := hX1.cell; have fX1 := hX1.frozen; have lX1 := hX1.lt; have mX1 := Nat.ne_of_gt lX1; have nX1 := Nat.ne_of_lt lX1)); go_ret; exact ⟨rfl, (by repeat (first | with_reducible exact Below.refl _ _ | with_reducible assumption | with_reducible apply Below.drew | with_reducible apply below_drewN | (with_reducible apply below_setp; (first | omega | (simp <;> omega))) | (with_reducible apply below_allocp; (first | omega | (simp <;> omega))) | (with_reducible refine below_viap (by assumption) ?_ ?_; (first | omega | (simp <;> omega)))))⟩)
/-- The class of an ideal, if it has one: the reduced form. -/
def IcR (d e a b : Int) (r : Fm) (ok : Bool) : Prop := (ok = false ∧ (piB d && idB d e a b) = false ∧ r = ⟨0, 0, 0⟩) ∨ (ok = true ∧ piB d = true ∧ IdV d e a b ∧ ∃ c, b * b - d = 4 * a * c ∧ red ⟨a, b, c⟩ = r)
theorem icR_ex (d e a b : Int) : ∃ r ok, IcR d e a b r ok := by
  cases h : piB d && idB d e a b with
  | false => exact ⟨_, false, .inl ⟨rfl, h, rfl⟩⟩
  | true =>
    rw [Bool.and_eq_true] at h
    have V := idB_iff.1 h.2
    obtain ⟨c, hc, _⟩ := V.form
    exact ⟨_, true, .inr ⟨rfl, h.1, V, c, hc, rfl⟩⟩
set_option maxRecDepth 100000 in
set_option maxHeartbeats 1600000 in
theorem implIC_R {d e a b : Int} {r : Fm} {ok : Bool} (w : World) (h : IcR d e a b r ok) : Calls Tryz.prog 6 #[.int .i64 d, .agg #[.int .i64 e, .int .i64 a, .int .i64 b]] w fun x w' => x = .returned (.tuple #[.agg #[.int .i64 r.a, .int .i64 r.b, .int .i64 r.c], .bool ok]) ∧ Below w.heap.size w w' := by
  have hW := Lib.hid (fun w => isWhole_any d e a b w)
  rcases h with ⟨rfl, h, rfl⟩ | ⟨rfl, hp, V, c, hc, hr⟩
  · rw [h] at hW
    clear h
    go_enter Tryz.func6, Tryz.ntmps6
    go_wp2_with (go_at_call 26; (with_reducible refine (hW.out _).mono ?_); rintro e v1 ⟨rfl, hB1⟩; have hZ1 := hB1.size; (try simp at hZ1); (try have zl1 : w.heap.size < v1.heap.size := by omega); (try have ze1 : w.heap.size ≤ v1.heap.size := by omega); (try have zn1 : ¬ w.heap.size = v1.heap.size := by omega); (try have zm1 : ¬ v1.heap.size = w.heap.size := by omega); have hX1 : Blk v1 (w.heap.size) 25 #[.int .i64 e, .int .i64 a, .int .i64 b] := Blk.call (by (repeat (first | with_reducible assumption | (with_reducible apply Blk.new_at; (first | rfl | (simp; done))) | with_reducible apply Blk.store3 | with_reducible apply Blk.store4 | (with_reducible apply Blk.farp; (first | omega | (simp <;> omega))) | with_reducible apply Blk.allocp | with_reducible apply Blk.drew | with_reducible apply Blk.drewN))) hB1; have cX1 := hX1.cell; have fX1 := hX1.frozen; have lX1 := hX1.lt; have mX1 := Nat.ne_of_gt lX1; have nX1 := Nat.ne_of_lt lX1; have hR1 : Blk v1 (w.heap.size + 1) 29 #[.int .i64 0, .int .i64 0, .int .i64 0] := Blk.call (by (repeat (first | with_reducible assumption | (with_reducible apply Blk.new_at; (first | rfl | (simp; done))) | with_reducible apply Blk.store3 | with_reducible apply Blk.store4 | (with_reducible apply Blk.farp; (first | omega | (simp <;> omega))) | with_reducible apply Blk.allocp | with_reducible apply Blk.drew | with_reducible apply Blk.drewN))) hB1; have cR1 := hR1.cell; have fR1 := hR1.frozen; have lR1 := hR1.lt; have mR1 := Nat.ne_of_gt lR1; have nR1 := Nat.ne_of_lt lR1)
    exact bodyPost_ret (v := .tuple #[.agg #[.int .i64 0, .int .i64 0, .int .i64 0], .bool false]) (by simp [results, Tryz.results6, go_sem, *]) rfl ⟨rfl, (by repeat (first | with_reducible exact Below.refl _ _ | with_reducible assumption | with_reducible apply Below.drew | with_reducible apply below_drewN | (with_reducible apply below_setp; (first | omega | (simp <;> omega))) | (with_reducible apply below_allocp; (first | omega | (simp <;> omega))) | (with_reducible refine below_viap (by assumption) ?_ ?_; (first | omega | (simp <;> omega)))))⟩
  · rw [hp, idB_iff.2 V] at hW
    have hF := Lib.hid (fun w => form_any d e a b c w ⟨V.a1, V.a2⟩ ⟨V.b0, by have := V.b2; have := V.a2; omega⟩ ⟨V.d2.1, by have := V.d2.2; omega⟩ hc)
    have hR := Lib.hid (fun w => reduced_any a b c r.a r.b r.c w (V.def hc) hr)
    clear hp V hc hr
    obtain ⟨ra, rb, rc⟩ := r
    go_enter Tryz.func6, Tryz.ntmps6
    go_wp2_with (first | (go_at_call 26; (with_reducible refine (hW.out _).mono ?_); rintro e v1 ⟨rfl, hB1⟩; have hZ1 := hB1.size; (try simp at hZ1); (try have zl1 : w.heap.size < v1.heap.size := by omega); (try have ze1 : w.heap.size ≤ v1.heap.size := by omega); (try have zn1 : ¬ w.heap.size = v1.heap.size := by omega); (try have zm1 : ¬ v1.heap.size = w.heap.size := by omega); have hX1 : Blk v1 (w.heap.size) 25 #[.int .i64 e, .int .i64 a, .int .i64 b] := Blk.call (by (repeat (first | with_reducible assumption | (with_reducible apply Blk.new_at; (first | rfl | (simp; done))) | with_reducible apply Blk.store3 | with_reducible apply Blk.store4 | (with_reducible apply Blk.farp; (first | omega | (simp <;> omega))) | with_reducible apply Blk.allocp | with_reducible apply Blk.drew | with_reducible apply Blk.drewN))) hB1; have cX1 := hX1.cell; have fX1 := hX1.frozen; have lX1 := hX1.lt; have mX1 := Nat.ne_of_gt lX1; have nX1 := Nat.ne_of_lt lX1; have hR1 : Blk v1 (w.heap.size + 1) 29 #[.int .i64 0, .int .i64 0, .int .i64 0] := Blk.call (by (repeat (first | with_reducible assumption | (with_reducible apply Blk.new_at; (first | rfl | (simp; done))) | with_reducible apply Blk.store3 | with_reducible apply Blk.store4 | (with_reducible apply Blk.farp; (first | omega | (simp <;> omega))) | with_reducible apply Blk.allocp | with_reducible apply Blk.drew | with_reducible apply Blk.drewN))) hB1; have cR1 := hR1.cell; have fR1 := hR1.frozen; have lR1 := hR1.lt; have mR1 := Nat.ne_of_gt lR1; have nR1 := Nat.ne_of_lt lR1) | (go_at_call 28; (with_reducible refine (hF.out _).mono ?_); rintro e v2 ⟨rfl, hB2⟩; have hZ2 := hB2.size; (try simp at hZ2); (try have zl2 : w.heap.size < v2.heap.size := by omega); (try have ze2 : w.heap.size ≤ v2.heap.size := by omega); (try have zn2 : ¬ w.heap.size = v2.heap.size := by omega); (try have zm2 : ¬ v2.heap.size = w.heap.size := by omega); have hR2 : Blk v2 (w.heap.size + 1) 29 #[.int .i64 0, .int .i64 0, .int .i64 0] := Blk.call (by (repeat (first | with_reducible assumption | (with_reducible apply Blk.new_at; (first | rfl | (simp; done))) | with_reducible apply Blk.store3 | with_reducible apply Blk.store4 | (with_reducible apply Blk.farp; (first | omega | (simp <;> omega))) | with_reducible apply Blk.allocp | with_reducible apply Blk.drew | with_reducible apply Blk.drewN))) hB2; have cR2 := hR2.cell; have fR2 := hR2.frozen; have lR2 := hR2.lt; have mR2 := Nat.ne_of_gt lR2; have nR2 := Nat.ne_of_lt lR2) | (go_at_call 27; (with_reducible refine (hR.out _).mono ?_); rintro e v3 ⟨rfl, hB3⟩; have hZ3 := hB3.size; (try simp at hZ3); (try have zl3 : w.heap.size < v3.heap.size := by omega); (try have ze3 : w.heap.size ≤ v3.heap.size := by omega); (try have zn3 : ¬ w.heap.size = v3.heap.size := by omega); (try have zm3 : ¬ v3.heap.size = w.heap.size := by omega); have hR3 : Blk v3 (w.heap.size + 1) 29 #[.int .i64 0, .int .i64 0, .int .i64 0] := Blk.call (by (repeat (first | with_reducible assumption | (with_reducible apply Blk.new_at; (first | rfl | (simp; done))) | with_reducible apply Blk.store3 | with_reducible apply Blk.store4 | (with_reducible apply Blk.farp; (first | omega | (simp <;> omega))) | with_reducible apply Blk.allocp | with_reducible apply Blk.drew | with_reducible apply Blk.drewN))) hB3; have cR3 := hR3.cell; have fR3 := hR3.frozen; have lR3 := hR3.lt; have mR3 := Nat.ne_of_gt lR3; have nR3 := Nat.ne_of_lt lR3))
    exact bodyPost_ret (v := .tuple #[.agg #[.int .i64 ra, .int .i64 rb, .int .i64 rc], .bool true]) (by simp [results, Tryz.results6, go_sem, *]) rfl ⟨rfl, (by repeat (first | with_reducible exact Below.refl _ _ | with_reducible assumption | with_reducible apply Below.drew | with_reducible apply below_drewN | (with_reducible apply below_setp; (first | omega | (simp <;> omega))) | (with_reducible apply below_allocp; (first | omega | (simp <;> omega))) | (with_reducible refine below_viap (by assumption) ?_ ?_; (first | omega | (simp <;> omega)))))⟩
set_option maxRecDepth 100000 in
set_option maxHeartbeats 1600000 in
theorem piClass_any (d e a b c : Int) (r : Fm) (w : World) (V : IdV d e a b) (hc : b * b - d = 4 * a * c) (hr : red ⟨a, b, c⟩ = r) : Calls Tryz.prog 29 #[.int .i64 d, .agg #[.int .i64 e, .int .i64 a, .int .i64 b]] w fun x w' => x = .returned (.agg #[.int .i64 r.a, .int .i64 r.b, .int .i64 r.c]) ∧ Below w.heap.size w w' := by
  have hF := Lib.hid (fun w => idForm_any d e a b c w ⟨V.a1, V.a2⟩ ⟨V.b0, by have := V.b2; have := V.a2; omega⟩ ⟨V.d2.1, by have := V.d2.2; omega⟩ hc)
  have hR := Lib.hid (fun w => reClass_any a b c r.a r.b r.c w (V.def hc) hr)
  clear V hc hr
  obtain ⟨ra, rb, rc⟩ := r
  go_enter Tryz.func29, Tryz.ntmps29
  go_wp2_with (first | (go_at_call 52; (with_reducible refine (hF.out _).mono ?_); rintro e v1 ⟨rfl, hB1⟩; have hZ1 := hB1.size; (try simp at hZ1); (try have zl1 : w.heap.size < v1.heap.size := by omega); (try have ze1 : w.heap.size ≤ v1.heap.size := by omega); (try have zn1 : ¬ w.heap.size = v1.heap.size := by omega); (try have zm1 : ¬ v1.heap.size = w.heap.size := by omega); have hR1 : Blk v1 (w.heap.size + 1) 29 #[.int .i64 0, .int .i64 0, .int .i64 0] := Blk.call (by (repeat (first | with_reducible assumption | (with_reducible apply Blk.new_at; (first | rfl | (simp; done))) | with_reducible apply Blk.store3 | with_reducible apply Blk.store4 | (with_reducible apply Blk.farp; (first | omega | (simp <;> omega))) | with_reducible apply Blk.allocp | with_reducible apply Blk.drew | with_reducible apply Blk.drewN))) hB1; have cR1 := hR1.cell; have fR1 := hR1.frozen; have lR1 := hR1.lt; have mR1 := Nat.ne_of_gt lR1; have nR1 := Nat.ne_of_lt lR1) | (go_at_call 68; (with_reducible refine (hR.out _).mono ?_); rintro e v2 ⟨rfl, hB2⟩; have hZ2 := hB2.size; (try simp at hZ2); (try have zl2 : w.heap.size < v2.heap.size := by omega); (try have ze2 : w.heap.size ≤ v2.heap.size := by omega); (try have zn2 : ¬ w.heap.size = v2.heap.size := by omega); (try have zm2 : ¬ v2.heap.size = w.heap.size := by omega); have hR2 : Blk v2 (w.heap.size + 1) 29 #[.int .i64 0, .int .i64 0, .int .i64 0] := Blk.call (by (repeat (first | with_reducible assumption | (with_reducible apply Blk.new_at; (first | rfl | (simp; done))) | with_reducible apply Blk.store3 | with_reducible apply Blk.store4 | (with_reducible apply Blk.farp; (first | omega | (simp <;> omega))) | with_reducible apply Blk.allocp | with_reducible apply Blk.drew | with_reducible apply Blk.drewN))) hB2; have cR2 := hR2.cell; have fR2 := hR2.frozen; have lR2 := hR2.lt; have mR2 := Nat.ne_of_gt lR2; have nR2 := Nat.ne_of_lt lR2))
  exact bodyPost_ret (v := .agg #[.int .i64 ra, .int .i64 rb, .int .i64 rc]) (by simp [results, Tryz.results29, go_sem, *]) rfl ⟨rfl, (by repeat (first | with_reducible exact Below.refl _ _ | with_reducible assumption | with_reducible apply Below.drew | with_reducible apply below_drewN | (with_reducible apply below_setp; (first | omega | (simp <;> omega))) | (with_reducible apply below_allocp; (first | omega | (simp <;> omega))) | (with_reducible refine below_viap (by assumption) ?_ ?_; (first | omega | (simp <;> omega)))))⟩
set_option maxRecDepth 100000 in
set_option maxHeartbeats 1600000 in
theorem specIC_R {d e a b : Int} {r : Fm} {ok : Bool} (w : World) (hd : DrawnE d) (h : IcR d e a b r ok) : Calls Tryz.prog 7 #[.int .i64 d, .agg #[.int .i64 e, .int .i64 a, .int .i64 b]] w fun x w' => x = .returned (.tuple #[.agg #[.int .i64 r.a, .int .i64 r.b, .int .i64 r.c], .bool ok]) ∧ Below w.heap.size w w' := by
  have hW := Lib.hid (fun w => piGood_any d e a b w hd)
  clear hd
  rcases h with ⟨rfl, h, rfl⟩ | ⟨rfl, hp, V, c, hc, hr⟩
  · rw [h] at hW
    clear h
    go_enter Tryz.func7, Tryz.ntmps7
    go_wp2_with (go_at_call 22; (with_reducible refine (hW.out _).mono ?_); rintro e v1 ⟨rfl, hB1⟩; have hZ1 := hB1.size; (try simp at hZ1); (try have zl1 : w.heap.size < v1.heap.size := by omega); (try have ze1 : w.heap.size ≤ v1.heap.size := by omega); (try have zn1 : ¬ w.heap.size = v1.heap.size := by omega); (try have zm1 : ¬ v1.heap.size = w.heap.size := by omega); have hX1 : Blk v1 (w.heap.size) 25 #[.int .i64 e, .int .i64 a, .int .i64 b] := Blk.call (by (repeat (first | with_reducible assumption | (with_reducible apply Blk.new_at; (first | rfl | (simp; done))) | with_reducible apply Blk.store3 | with_reducible apply Blk.store4 | (with_reducible apply Blk.farp; (first | omega | (simp <;> omega))) | with_reducible apply Blk.allocp | with_reducible apply Blk.drew | with_reducible apply Blk.drewN))) hB1; have cX1 := hX1.cell; have fX1 := hX1.frozen; have lX1 := hX1.lt; have mX1 := Nat.ne_of_gt lX1; have nX1 := Nat.ne_of_lt lX1; have hR1 : Blk v1 (w.heap.size + 1) 29 #[.int .i64 0, .int .i64 0, .int .i64 0] := Blk.call (by (repeat (first | with_reducible assumption | (with_reducible apply Blk.new_at; (first | rfl | (simp; done))) | with_reducible apply Blk.store3 | with_reducible apply Blk.store4 | (with_reducible apply Blk.farp; (first | omega | (simp <;> omega))) | with_reducible apply Blk.allocp | with_reducible apply Blk.drew | with_reducible apply Blk.drewN))) hB1; have cR1 := hR1.cell; have fR1 := hR1.frozen; have lR1 := hR1.lt; have mR1 := Nat.ne_of_gt lR1; have nR1 := Nat.ne_of_lt lR1)
    exact bodyPost_ret (v := .tuple #[.agg #[.int .i64 0, .int .i64 0, .int .i64 0], .bool false]) (by simp [results, Tryz.results7, go_sem, *]) rfl ⟨rfl, (by repeat (first | with_reducible exact Below.refl _ _ | with_reducible assumption | with_reducible apply Below.drew | with_reducible apply below_drewN | (with_reducible apply below_setp; (first | omega | (simp <;> omega))) | (with_reducible apply below_allocp; (first | omega | (simp <;> omega))) | (with_reducible refine below_viap (by assumption) ?_ ?_; (first | omega | (simp <;> omega)))))⟩
  · rw [hp, idB_iff.2 V] at hW
    have hR := Lib.hid (fun w => piClass_any d e a b c r w V hc hr)
    clear hp V hc hr
    obtain ⟨ra, rb, rc⟩ := r
    go_enter Tryz.func7, Tryz.ntmps7
    go_wp2_with (first | (go_at_call 22; (with_reducible refine (hW.out _).mono ?_); rintro e v1 ⟨rfl, hB1⟩; have hZ1 := hB1.size; (try simp at hZ1); (try have zl1 : w.heap.size < v1.heap.size := by omega); (try have ze1 : w.heap.size ≤ v1.heap.size := by omega); (try have zn1 : ¬ w.heap.size = v1.heap.size := by omega); (try have zm1 : ¬ v1.heap.size = w.heap.size := by omega); have hX1 : Blk v1 (w.heap.size) 25 #[.int .i64 e, .int .i64 a, .int .i64 b] := Blk.call (by (repeat (first | with_reducible assumption | (with_reducible apply Blk.new_at; (first | rfl | (simp; done))) | with_reducible apply Blk.store3 | with_reducible apply Blk.store4 | (with_reducible apply Blk.farp; (first | omega | (simp <;> omega))) | with_reducible apply Blk.allocp | with_reducible apply Blk.drew | with_reducible apply Blk.drewN))) hB1; have cX1 := hX1.cell; have fX1 := hX1.frozen; have lX1 := hX1.lt; have mX1 := Nat.ne_of_gt lX1; have nX1 := Nat.ne_of_lt lX1; have hR1 : Blk v1 (w.heap.size + 1) 29 #[.int .i64 0, .int .i64 0, .int .i64 0] := Blk.call (by (repeat (first | with_reducible assumption | (with_reducible apply Blk.new_at; (first | rfl | (simp; done))) | with_reducible apply Blk.store3 | with_reducible apply Blk.store4 | (with_reducible apply Blk.farp; (first | omega | (simp <;> omega))) | with_reducible apply Blk.allocp | with_reducible apply Blk.drew | with_reducible apply Blk.drewN))) hB1; have cR1 := hR1.cell; have fR1 := hR1.frozen; have lR1 := hR1.lt; have mR1 := Nat.ne_of_gt lR1; have nR1 := Nat.ne_of_lt lR1) | (go_at_call 29; (with_reducible refine (hR.out _).mono ?_); rintro e v2 ⟨rfl, hB2⟩; have hZ2 := hB2.size; (try simp at hZ2); (try have zl2 : w.heap.size < v2.heap.size := by omega); (try have ze2 : w.heap.size ≤ v2.heap.size := by omega); (try have zn2 : ¬ w.heap.size = v2.heap.size := by omega); (try have zm2 : ¬ v2.heap.size = w.heap.size := by omega); have hR2 : Blk v2 (w.heap.size + 1) 29 #[.int .i64 0, .int .i64 0, .int .i64 0] := Blk.call (by (repeat (first | with_reducible assumption | (with_reducible apply Blk.new_at; (first | rfl | (simp; done))) | with_reducible apply Blk.store3 | with_reducible apply Blk.store4 | (with_reducible apply Blk.farp; (first | omega | (simp <;> omega))) | with_reducible apply Blk.allocp | with_reducible apply Blk.drew | with_reducible apply Blk.drewN))) hB2; have cR2 := hR2.cell; have fR2 := hR2.frozen; have lR2 := hR2.lt; have mR2 := Nat.ne_of_gt lR2; have nR2 := Nat.ne_of_lt lR2))
    exact bodyPost_ret (v := .tuple #[.agg #[.int .i64 ra, .int .i64 rb, .int .i64 rc], .bool true]) (by simp [results, Tryz.results7, go_sem, *]) rfl ⟨rfl, (by repeat (first | with_reducible exact Below.refl _ _ | with_reducible assumption | with_reducible apply Below.drew | with_reducible apply below_drewN | (with_reducible apply below_setp; (first | omega | (simp <;> omega))) | (with_reducible apply below_allocp; (first | omega | (simp <;> omega))) | (with_reducible refine below_viap (by assumption) ?_ ?_; (first | omega | (simp <;> omega)))))⟩
end Go.Proofs.YtohgccgbbipjjaaGreat
