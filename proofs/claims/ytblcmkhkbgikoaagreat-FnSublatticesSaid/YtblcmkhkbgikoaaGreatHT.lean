/- Contract: the points at which a reduced form has its least value, of the program (written by gen_HT.py). -/
import Derived.Test.YtblcmkhkbgikoaaGreatTA
import Derived.Test.YtblcmkhkbgikoaaGreatHP
namespace Go.Proofs.YtblcmkhkbgikoaaGreat
open Go.RowKit

set_option maxRecDepth 100000 in
set_option maxHeartbeats 1600000 in
theorem root2_any (n : Int) (w : World) (h0 : 0 ≤ n) (h1 : n ≤ 16000000000000) : Calls Tryz.prog 54 #[.int .i64 n] w fun e w' => e = .returned (.int .i64 (rt n)) ∧ w = w' := by
  have hR := rt_spec h0
  have hc := Lib.hid (fun m (hm : 0 ≤ m) => rt_cmp (n := n) (m := m) h0 hm)
  have hb : rt n ≤ 4000000 := by
    apply Int.not_lt.1
    intro hlt
    have := Int.mul_le_mul (show (4000001 : Int) ≤ rt n by omega) (show (4000001 : Int) ≤ rt n by omega) (by omega) (by omega)
    omega
  obtain ⟨R, hRe⟩ : ∃ R, rt n = R := ⟨_, rfl⟩
  rw [hRe] at hc hb hR ⊢
  have r0 := hR.1
  clear hRe hR
  go_enter Tryz.func54, Tryz.ntmps54
  go_wp2
  go_loop [3, 4] (fun v3 v4 => RtSt R v3 v4) (fun v3 v4 => (intOf v4 - intOf v3).toNat)
  case atStart => exact ⟨0, 3000000000, rfl, rfl, by omega, r0, by omega, by omega⟩
  case round =>
    obtain ⟨l, h, rfl, rfl, l0, lR, hR, hh⟩ := hrel
    by_cases hlt : l < h
    · obtain ⟨m, hm⟩ : ∃ m, (l + h + 1) / 2 = m := ⟨_, rfl⟩
      have ht : (l + h + 1).tdiv 2 = m := by rw [Int.tdiv_eq_ediv_of_nonneg (by omega)]; exact hm
      have m1 : l < m := by omega
      have m2 : m ≤ h := by omega
      have hw0 : wrap64 (l + h) = l + h := IntWalk.wrap64_in _ (by omega)
      have hw1 : wrap64 (l + h + 1) = l + h + 1 := IntWalk.wrap64_in _ (by omega)
      have hw2 : wrap64 m = m := IntWalk.wrap64_in _ (by omega)
      have q1 : 0 ≤ m * m := Int.mul_nonneg (by omega) (by omega)
      have q2 : m * m ≤ 3000000000 * 3000000000 := Int.mul_le_mul (by omega) (by omega) (by omega) (by omega)
      have hw3 : wrap64 (m * m) = m * m := IntWalk.wrap64_in _ (by omega)
      have hcm := hc.out m (by omega)
      clear hm
      by_cases hle : m * m ≤ n
      · have hmR := hcm.1 hle
        clear hcm
        go_wp2
        go_round
        case rel => exact ⟨m, h, rfl, rfl, by omega, hmR, hR, hh⟩
        case measure => simp [intOf]; omega
      · have hmR : R < m := by apply Int.not_le.1; intro hx; exact hle (hcm.2 hx)
        have hld : decide (m * m ≤ n) = false := decide_eq_false hle
        have hw4 : wrap64 (m - 1) = m - 1 := IntWalk.wrap64_in _ (by omega)
        clear hcm
        go_wp2
        go_round
        case rel => exact ⟨l, m - 1, rfl, rfl, l0, lR, by omega, by omega⟩
        case measure => simp [intOf]; omega
    · have e : l = R := by omega
      subst e
      have hld : decide (l < h) = false := decide_eq_false hlt
      go_wp2
      go_ret
      exact ⟨rfl, rfl⟩
set_option maxHeartbeats 800000 in
theorem isSquare2_any (n : Int) (w : World) (h1 : n ≤ 16000000000000) : Calls Tryz.prog 55 #[.int .i64 n] w fun e w' => e = .returned (.bool (sqB n)) ∧ w = w' := by
  unfold sqB
  by_cases h0 : 0 ≤ n
  · have hR := Lib.hid (fun w => root2_any n w h0 h1)
    obtain ⟨r0, r1, _⟩ := rt_spec h0
    have hw : wrap64 (rt n * rt n) = rt n * rt n := IntWalk.wrap64_in _ (by have := Int.mul_nonneg r0 r0; omega)
    rw [decide_eq_true h0, Bool.true_and]
    generalize rt n = r at *
    go_enter Tryz.func55, Tryz.ntmps55
    go_wp2_with (go_at_call 54; (with_reducible refine (hR.out _).mono ?_); rintro e v ⟨rfl, rfl⟩)
    go_ret
    exact ⟨ret_bool (by first | rfl | (rw [Bool.eq_iff_iff, beq_iff_eq, decide_eq_true_iff, hw]) | (rw [Bool.eq_iff_iff, beq_iff_eq, decide_eq_true_iff])), rfl⟩
  · have hd : decide (0 ≤ n) = false := decide_eq_false h0
    rw [hd, Bool.false_and]
    go_enter Tryz.func55, Tryz.ntmps55
    go_wp2
    go_ret
    exact ⟨rfl, rfl⟩
/-- The greatest x is 1. -/
theorem ptM_one {a b c e : Int} (ha : 0 < a) (hb : -a ≤ b ∧ b ≤ a) (hac : a ≤ c) (he : 4 * a * c - b * b = e) : (4 * c * a).tdiv e = 1 ∧ 3 ≤ e := by
  have h1 : b * b ≤ a * a := by
    rcases Int.le_total 0 b with h | h
    · exact Int.mul_le_mul hb.2 hb.2 h (by omega)
    · have := Int.mul_le_mul (show -b ≤ a by omega) (show -b ≤ a by omega) (by omega) (by omega)
      rw [Int.neg_mul_neg] at this; exact this
  have h2 : a * a ≤ a * c := Int.mul_le_mul_of_nonneg_left hac (by omega)
  have h3 : 1 * 1 ≤ a * a := Int.mul_le_mul (show (1 : Int) ≤ a by omega) (show (1 : Int) ≤ a by omega) (by omega) (by omega)
  have h0 := sqn b
  have e1 : 4 * a * c = 4 * (a * c) := Int.mul_assoc _ _ _
  have e2 : 4 * c * a = 4 * (a * c) := by rw [Int.mul_assoc, Int.mul_comm c a]
  rw [e1] at he
  rw [e2]
  generalize a * c = z at *
  generalize a * a = y at *
  generalize b * b = u at *
  refine ⟨?_, by omega⟩
  rw [Int.tdiv_eq_ediv_of_nonneg (by omega)]
  have k1 : (4 * z) / e * e ≤ 4 * z := Int.ediv_mul_le _ (by omega)
  have k2 : 4 * z < ((4 * z) / e + 1) * e := Int.lt_ediv_add_one_mul_self _ (by omega)
  have k3 : 1 ≤ (4 * z) / e := (Int.le_ediv_iff_mul_le (by omega)).2 (by omega)
  have k4 : (4 * z) / e < 2 := Int.ediv_lt_of_lt_mul (by omega) (by omega)
  omega
theorem rt_one : rt 1 = 1 := rt_uniq (by decide) (by decide)
set_option maxRecDepth 100000 in
set_option maxHeartbeats 12800000 in
theorem points2_any (a b c e n : Int) (w : World) (hn : n = a) (ha : 1 ≤ a ∧ a ≤ 1000000) (hb : -a ≤ b ∧ b ≤ a) (hc : a ≤ c ∧ c ≤ 1000000) (he : 4 * a * c - b * b = e) :
    Calls Tryz.prog 29 #[.agg #[.int .i64 a, .int .i64 b, .int .i64 c], .int .i64 n] w (RetP (ptsK (-e) b c n 1 3) w) := by
  obtain ⟨i0, hi, hz0, hz1, hz2⟩ := info_parts infoPt
  obtain ⟨hq, e1⟩ := ptM_one (show 0 < a by omega) hb hc.1 he
  have bb := mul_bd (a := b) (x := b) (A := 1000000) (X := 1000000) (by omega) (by omega) (by omega) (by omega)
  have bb0 := sqn b
  have aq := mul_bd (a := 4 * a) (x := c) (A := 4000000) (X := 1000000) (by omega) (by omega) (by omega) (by omega)
  have hde : disc ⟨a, b, c⟩ = -e := by unfold disc; show b * b - 4 * a * c = -e; omega
  have hDc := Lib.hid (fun w => idisc_any a b c w (by unfold Far; omega) (by unfold Far; omega) (by unfold Far; omega))
  rw [hde] at hDc
  have hcomm : 4 * c * a = 4 * a * c := by rw [Int.mul_assoc, Int.mul_comm c a, ← Int.mul_assoc]
  have q1 : 4 ≤ 4 * c * a := by have := Int.mul_le_mul (show (4 : Int) ≤ 4 * c by omega) ha.1 (by omega) (by omega); omega
  have q2 : 4 * c * a ≤ 4000000000000 := by omega
  have e2 : e ≤ 4000000000000 := by omega
  rw [← hn] at hq q1 q2
  have q3 : 0 ≤ (4 * c * n).tdiv e := by omega
  have q4 : (4 * c * n).tdiv e ≤ 1 := by omega
  have hRt := Lib.hid (fun w => root2_any ((4 * c * n).tdiv e) w q3 (by omega))
  have hrt : rt ((4 * c * n).tdiv e) = 1 := by rw [hq]; exact rt_one
  obtain ⟨m, hm⟩ : ∃ m : Int, m = 1 := ⟨_, rfl⟩
  rw [hrt, ← hm] at hRt
  rw [← hm]
  have m0 : 0 ≤ m := by omega
  have mb : m ≤ 1 := by omega
  rw [show (3 : Nat) = (2 * m + 1).toNat by omega]
  have HM1 := Lib.hid hm
  clear hm hrt
  have hw0 : wrap64 (4 * c) = 4 * c := IntWalk.wrap64_in _ (by omega)
  have hw1 : wrap64 (4 * c * n) = 4 * c * n := IntWalk.wrap64_in _ (by omega)
  have hw2 : wrap64 e = e := IntWalk.wrap64_in _ (by omega)
  have hw3 : wrap64 ((4 * c * n).tdiv e) = (4 * c * n).tdiv e := IntWalk.wrap64_in _ (by omega)
  have hw5 : wrap64 (-m) = -m := IntWalk.wrap64_in _ (by omega)
  have hw6 : wrap64 (-b) = -b := IntWalk.wrap64_in _ (by omega)
  have hw7 : wrap64 (2 * c) = 2 * c := IntWalk.wrap64_in _ (by omega)
  have hd0 : ¬ e = 0 := by omega
  have hc0 : ¬ 2 * c = 0 := by omega
  clear hde hcomm bb bb0 aq he hq HM1 hn
  go_enter Tryz.func29, Tryz.ntmps29
  go_wp2_with (first
    | (go_at_call 42; (with_reducible refine (hDc.out _).mono ?_); rintro e v1 ⟨rfl, hB1⟩; have hZ1 := hB1.size; (try simp at hZ1); (try have zl1 : w.heap.size < v1.heap.size := by omega); (try have ze1 : w.heap.size ≤ v1.heap.size := by omega); (try have zn1 : ¬ w.heap.size = v1.heap.size := by omega); (try have zm1 : ¬ v1.heap.size = w.heap.size := by omega); have hA1 : Blk v1 (w.heap.size) 36 #[.int .i64 a, .int .i64 b, .int .i64 c] := Blk.call (by (repeat (first | with_reducible assumption | (with_reducible apply Blk.new_at; (first | rfl | (simp; done))) | with_reducible apply Blk.store3 | with_reducible apply Blk.store4 | (with_reducible apply Blk.farp; (first | omega | (simp <;> omega))) | with_reducible apply Blk.allocp | with_reducible apply Blk.drew | with_reducible apply Blk.drewN))) hB1; have cA1 := hA1.cell; have fA1 := hA1.frozen; have lA1 := hA1.lt; have mA1 := Nat.ne_of_gt lA1; have nA1 := Nat.ne_of_lt lA1)
    | (go_at_call 54; (with_reducible refine (hRt.out _).mono ?_); rintro e v ⟨rfl, rfl⟩))
  have hown0 : v1.ownsRow (w.heap.size + 1) 51 2 (.slice (some ⟨w.heap.size + 1, 0, none⟩) 0 0) 0 [] := by
    have h := own_empty (w := w.alloc (.cells #[.int .i64 a, .int .i64 b, .int .i64 c] 36)) (B := w.heap.size + 1) (e := 51) (sz := 2) (by simp)
    simp at h
    exact own_call hB1 h
  have hbel0 : Below w.heap.size w v1 := (by repeat (first | with_reducible exact Below.refl _ _ | with_reducible assumption | with_reducible apply Below.drew | with_reducible apply below_drewN | (with_reducible apply below_setp; (first | omega | (simp <;> omega))) | (with_reducible apply below_allocp; (first | omega | (simp <;> omega))) | (with_reducible refine below_viap (by assumption) ?_ ?_; (first | omega | (simp <;> omega)))))
  go_loopw [5, 8] (fun v5 v8 wr => PtSt (-e) b c n m #[.int .i64 a, .int .i64 b, .int .i64 c] w v5 v8 wr) (fun _ v8 _ => (m + 1 - intOf v8).toNat)
  case atStart => exact ⟨0, by simp, by omega, hown0, hA1, by omega, hbel0⟩
  case round =>
    clear hown0 hbel0 cA1 fA1 hA1
    obtain ⟨k, rfl, hk, hown, hA, hsz, hbel⟩ := hrel
    have hz := hbel.size
    have cA := hA.cell; have fA := hA.frozen; have lA := hA.lt
    have hnx := Lib.hid (ptsK_next (-e) b c n m k)
    have hql : (ptsK (-e) b c n m k).length ≤ 100000 := by have := ptsK_len (-e) b c n m k; omega
    obtain ⟨x, hx⟩ : ∃ x : Int, -m + k = x := ⟨_, rfl⟩
    have hkN := Lib.hid (show -m + ((k + 1 : Nat) : Int) = x + 1 by omega)
    rw [hx] at hnx ⊢
    by_cases hle : x ≤ m
    · have xb1 : -1 ≤ x := by omega
      have hxx0 : 0 ≤ x * x := by rcases Int.le_total 0 x with h | h; exact Int.mul_nonneg h h; exact Int.mul_nonneg_of_nonpos_of_nonpos h h
      have hxx1 : x * x ≤ 1 := by
        rcases Int.le_total 0 x with h | h
        · exact Int.mul_le_mul (show x ≤ 1 by omega) (show x ≤ 1 by omega) h (by omega)
        · have := Int.mul_le_mul (show -x ≤ 1 by omega) (show -x ≤ 1 by omega) (by omega) (by omega)
          rw [Int.neg_mul_neg] at this; exact this
      have hex0 : 0 ≤ e * (x * x) := Int.mul_nonneg (by omega) hxx0
      have hex1 : e * (x * x) ≤ 4000000000000 * 1 := Int.mul_le_mul e2 hxx1 hxx0 (by omega)
      have hxe : -4000000000000 ≤ e * x ∧ e * x ≤ 4000000000000 := by
        rcases Int.le_total 0 x with h | h
        · have h1 := Int.mul_nonneg (show 0 ≤ e by omega) h
          have h2 := Int.mul_le_mul e2 (show x ≤ 1 by omega) h (by omega)
          omega
        · have h1 := Int.mul_nonneg (show 0 ≤ e by omega) (show 0 ≤ -x by omega)
          have h2 := Int.mul_le_mul e2 (show -x ≤ 1 by omega) (show 0 ≤ -x by omega) (by omega)
          rw [Int.mul_neg] at h1 h2
          omega
      have hbx : -1000000 ≤ b * x ∧ b * x ≤ 1000000 := by
        have h1 : (b * x).natAbs = b.natAbs * x.natAbs := Int.natAbs_mul _ _
        have h2 := Nat.mul_le_mul (show b.natAbs ≤ 1000000 by omega) (show x.natAbs ≤ 1 by omega)
        omega
      have hxa : e * x * x = e * (x * x) := Int.mul_assoc _ _ _
      have hne : -e * x = -(e * x) := Int.neg_mul _ _
      have hne2 : -e * x * x = -(e * x * x) := by rw [Int.neg_mul, Int.neg_mul]
      have hnb : -b * x = -(b * x) := Int.neg_mul _ _
      have hwa : wrap64 (-e * x) = -e * x := IntWalk.wrap64_in _ (by omega)
      have hwb : wrap64 (-e * x * x) = -e * x * x := IntWalk.wrap64_in _ (by omega)
      have hwc : wrap64 (-e * x * x + 4 * c * n) = -e * x * x + 4 * c * n := IntWalk.wrap64_in _ (by omega)
      have hwy : wrap64 (-b * x) = -b * x := IntWalk.wrap64_in _ (by omega)
      have hwx : wrap64 (x + 1) = x + 1 := IntWalk.wrap64_in _ (by omega)
      obtain ⟨S, hS⟩ : ∃ S, -e * x * x + 4 * c * n = S := ⟨_, rfl⟩
      have hpt : ptAt (-e) b c n x = if sqB S then ptA b c (rt S) x ++ ptB b c (rt S) x else [] := by
        unfold ptAt
        rw [hS]
      have hSb : S ≤ 4000000000000 := by omega
      have hyb : -1000000 ≤ -b * x ∧ -b * x ≤ 1000000 := by omega
      have hIs := Lib.hid (fun w => isSquare2_any S w (by omega))
      rw [hpt] at hnx
      have hwc2 : wrap64 (-e * x * x + 4 * c * n) = S := hwc.trans hS
      clear hpt hxx0 hxx1 hex0 hex1 hxe hxa hS q1 q2 q3 q4 hDc hRt hne hne2 hnb hbx hwc
      have hlx : (decide (x ≤ m)) = true := decide_eq_true hle
      cases hsq : sqB S with
      | false =>
        rw [hsq] at hIs hnx
        have Hnx : Hid (ptsK (-e) b c n m (k + 1) = ptsK (-e) b c n m k) := Lib.hid (by rw [hnx.out]; simp)
        clear hnx hsq
        go_wp2_with (go_at_call 55; (with_reducible refine (hIs.out _).mono ?_); rintro e v ⟨rfl, rfl⟩)
        go_roundw
        case rel => exact ⟨k + 1, by rw [hkN.out], by omega, by rw [Hnx.out]; exact hown, hA, hsz, hbel⟩
        case measure => simp [intOf]; omega
      | true =>
        rw [hsq] at hIs hnx
        have hS0 : 0 ≤ S := by unfold sqB at hsq; rw [Bool.and_eq_true] at hsq; exact of_decide_eq_true hsq.1
        have hRo := Lib.hid (fun w => root2_any S w hS0 (by omega))
        have hr := rt_spec hS0
        rw [if_pos rfl] at hnx
        have hr1 : rt S ≤ 2000000 := by
          apply Int.not_lt.1
          intro hlt
          have := Int.mul_le_mul (show (2000001 : Int) ≤ rt S by omega) (show (2000001 : Int) ≤ rt S by omega) (by omega) (by omega)
          omega
        have hr0 := hr.1
        generalize rt S = r at *
        have hwu : wrap64 (-b * x - r) = -b * x - r := IntWalk.wrap64_in _ (by omega)
        have hwv : wrap64 (-b * x + r) = -b * x + r := IntWalk.wrap64_in _ (by omega)
        clear hr hsq
        obtain ⟨P, hP⟩ : ∃ P, ptsK (-e) b c n m k = P := ⟨_, rfl⟩
        rw [hP] at hnx hown hql
        have HP := Lib.hid hP
        clear hP
        have htd1 : ∀ y : Int, -4000000 ≤ y ∧ y ≤ 4000000 → wrap64 (y.tdiv (2 * c)) = y.tdiv (2 * c) := fun y hy => by
          have h1 := Int.natAbs_tdiv_le_natAbs y (2 * c)
          exact IntWalk.wrap64_in _ (by omega)
        have hwU := htd1 (-b * x - r) (by omega)
        have hwV := htd1 (-b * x + r) (by omega)
        clear htd1
        by_cases hA1 : (-b * x - r).tmod (2 * c) = 0
        · have hAe : ptA b c r x = [(x, (-b * x - r).tdiv (2 * c))] := by unfold ptA; rw [if_pos hA1]
          rw [hAe] at hnx
          clear hAe
          generalize hyu : (-b * x - r).tdiv (2 * c) = yu at *
          by_cases hr2 : 0 < r
          · by_cases hB1v : (-b * x + r).tmod (2 * c) = 0
            · have hBe : ptB b c r x = [(x, (-b * x + r).tdiv (2 * c))] := by unfold ptB; rw [if_pos ⟨hr2, hB1v⟩]
              rw [hBe] at hnx
              clear hBe
              generalize hyv : (-b * x + r).tdiv (2 * c) = yv at *
              go_wp2_with (first | (go_at_call 55; (with_reducible refine (hIs.out _).mono ?_); rintro e v ⟨rfl, rfl⟩) | (go_at_call 54; (with_reducible refine (hRo.out _).mono ?_); rintro e v ⟨rfl, rfl⟩) | (at_builtin; refine wpList_append_own_at _ rfl (.tmp 58) (.tmp 72) 39 rfl (w.heap.size + 1) 51 i0 _ 2 16 Tryz.underlying39 hi hz0 hz1 hz2 rfl (by decide) u5 P.length (cellsP P) rfl ?_ ⟨wr.heap.size, 0, none⟩ 1 1 [.int .i64 x, .int .i64 yu] rfl rfl ?_ (one2 _ _) ?_ ?_ ?_ ?_; exact (by repeat (first | with_reducible assumption | with_reducible apply own_alloc | with_reducible apply own_drew | with_reducible apply own_drewN | (with_reducible refine own_setp (by assumption) ?_ ?_; (first | omega | (simp <;> omega))) | (with_reducible refine own_call (by assumption) ?_))); exact cells2 (Blk.new_at (by simp)); (unfold maxLen; omega); omega; (simp; omega); intro x8 w8 hown8 hg8 _ hloc8; have hA8 : Blk w8 w.heap.size 36 #[.int .i64 a, .int .i64 b, .int .i64 c] := Blk.grown (by (repeat (first | with_reducible assumption | (with_reducible apply Blk.new_at; (first | rfl | (simp; done))) | with_reducible apply Blk.store3 | with_reducible apply Blk.store4 | (with_reducible apply Blk.farp; (first | omega | (simp <;> omega))) | with_reducible apply Blk.allocp | with_reducible apply Blk.drew | with_reducible apply Blk.drewN))) hg8 (fun he => by have := own_ge hown _ he.symm; omega); have cA8 := hA8.cell; have fA8 := hA8.frozen; have lA8 := hA8.lt; have hz8 := hg8.size; simp at hz8; have ho8 := own_snocP (p := (x, yu)) (L := P) rfl hown8; have hPl : (P ++ [(x, yu)]).length ≤ 100001 := (by rw [List.length_append]; simp; omega)) | (at_builtin; refine wpList_append_own_at _ rfl (.tmp 90) (.tmp 104) 39 rfl (w.heap.size + 1) 51 i0 _ 2 16 Tryz.underlying39 hi hz0 hz1 hz2 rfl (by decide) x8 (P ++ [(x, yu)]).length (cellsP (P ++ [(x, yu)])) rfl ?_ ⟨w8.heap.size, 0, none⟩ 1 1 [.int .i64 x, .int .i64 yv] rfl rfl ?_ (one2 _ _) ?_ ?_ ?_ ?_; exact own_alloc ho8; exact cells2 (Blk.new_at (by simp)); (unfold maxLen; omega); omega; (simp; omega); intro x9 w9 hown9 hg9 _ hloc9))
              have hb8 : Below w.heap.size w w8 := below_grown (fun q hq => by have := own_ge hown q hq; omega) (by simp; omega) hg8 (by repeat (first | with_reducible exact Below.refl _ _ | with_reducible assumption | with_reducible apply Below.drew | with_reducible apply below_drewN | (with_reducible apply below_setp; (first | omega | (simp <;> omega))) | (with_reducible apply below_allocp; (first | omega | (simp <;> omega))) | (with_reducible refine below_viap (by assumption) ?_ ?_; (first | omega | (simp <;> omega)))))
              clear hown8 hg8 hloc8
              have hz9 := hg9.size
              simp at hz9
              have ho9 := own_snocP (p := (x, yv)) (L := P ++ [(x, yu)]) (K := ptsK (-e) b c n m (k + 1)) (by rw [hnx.out]; simp) hown9
              have hb9 : Below w.heap.size w w9 := below_grown (fun q hq => by have := own_ge ho8 q hq; omega) (by simp; omega) hg9 (by repeat (first | with_reducible exact Below.refl _ _ | with_reducible assumption | with_reducible apply Below.drew | with_reducible apply below_drewN | (with_reducible apply below_setp; (first | omega | (simp <;> omega))) | (with_reducible apply below_allocp; (first | omega | (simp <;> omega))) | (with_reducible refine below_viap (by assumption) ?_ ?_; (first | omega | (simp <;> omega)))))
              have hA9 : Blk w9 w.heap.size 36 #[.int .i64 a, .int .i64 b, .int .i64 c] := Blk.grown (by (repeat (first | with_reducible assumption | (with_reducible apply Blk.new_at; (first | rfl | (simp; done))) | with_reducible apply Blk.store3 | with_reducible apply Blk.store4 | (with_reducible apply Blk.farp; (first | omega | (simp <;> omega))) | with_reducible apply Blk.allocp | with_reducible apply Blk.drew | with_reducible apply Blk.drewN))) hg9 (fun he => by have := own_ge ho8 _ he.symm; omega)
              go_wp2
              exact ⟨⟨k + 1, by rw [hkN.out], by omega, ho9, hA9, by omega, hb9⟩, by simp [intOf]; omega⟩
            · have hB2v : ((-b * x + r).tmod (2 * c) == 0) = false := by rw [beq_eq_false_iff_ne]; exact hB1v
              have hBe : ptB b c r x = [] := by unfold ptB; rw [if_neg (fun h => hB1v h.2)]
              have Hnx : Hid (ptsK (-e) b c n m (k + 1) = P ++ [(x, yu)]) := Lib.hid (by rw [hnx.out, hBe]; simp)
              clear hnx hBe
              go_wp2_with (first | (go_at_call 55; (with_reducible refine (hIs.out _).mono ?_); rintro e v ⟨rfl, rfl⟩) | (go_at_call 54; (with_reducible refine (hRo.out _).mono ?_); rintro e v ⟨rfl, rfl⟩) | (at_builtin; refine wpList_append_own_at _ rfl (.tmp 58) (.tmp 72) 39 rfl (w.heap.size + 1) 51 i0 _ 2 16 Tryz.underlying39 hi hz0 hz1 hz2 rfl (by decide) u5 P.length (cellsP P) rfl ?_ ⟨wr.heap.size, 0, none⟩ 1 1 [.int .i64 x, .int .i64 yu] rfl rfl ?_ (one2 _ _) ?_ ?_ ?_ ?_; exact (by repeat (first | with_reducible assumption | with_reducible apply own_alloc | with_reducible apply own_drew | with_reducible apply own_drewN | (with_reducible refine own_setp (by assumption) ?_ ?_; (first | omega | (simp <;> omega))) | (with_reducible refine own_call (by assumption) ?_))); exact cells2 (Blk.new_at (by simp)); (unfold maxLen; omega); omega; (simp; omega); intro x8 w8 hown8 hg8 _ hloc8; have hA8 : Blk w8 w.heap.size 36 #[.int .i64 a, .int .i64 b, .int .i64 c] := Blk.grown (by (repeat (first | with_reducible assumption | (with_reducible apply Blk.new_at; (first | rfl | (simp; done))) | with_reducible apply Blk.store3 | with_reducible apply Blk.store4 | (with_reducible apply Blk.farp; (first | omega | (simp <;> omega))) | with_reducible apply Blk.allocp | with_reducible apply Blk.drew | with_reducible apply Blk.drewN))) hg8 (fun he => by have := own_ge hown _ he.symm; omega); have cA8 := hA8.cell; have fA8 := hA8.frozen; have lA8 := hA8.lt; have hz8 := hg8.size; simp at hz8; have ho8 := own_snocP (p := (x, yu)) (L := P) rfl hown8; have hPl : (P ++ [(x, yu)]).length ≤ 100001 := (by rw [List.length_append]; simp; omega)))
              have hb8 : Below w.heap.size w w8 := below_grown (fun q hq => by have := own_ge hown q hq; omega) (by simp; omega) hg8 (by repeat (first | with_reducible exact Below.refl _ _ | with_reducible assumption | with_reducible apply Below.drew | with_reducible apply below_drewN | (with_reducible apply below_setp; (first | omega | (simp <;> omega))) | (with_reducible apply below_allocp; (first | omega | (simp <;> omega))) | (with_reducible refine below_viap (by assumption) ?_ ?_; (first | omega | (simp <;> omega)))))
              clear hown8 hg8 hloc8
              go_wp2
              exact ⟨⟨k + 1, by rw [hkN.out], by omega, by rw [Hnx.out]; exact ho8, hA8, by omega, hb8⟩, by simp [intOf]; omega⟩
          · have hr3 : decide (0 < r) = false := decide_eq_false hr2
            have hBe : ptB b c r x = [] := by unfold ptB; rw [if_neg (fun h => hr2 h.1)]
            have Hnx : Hid (ptsK (-e) b c n m (k + 1) = P ++ [(x, yu)]) := Lib.hid (by rw [hnx.out, hBe]; simp)
            clear hnx hBe
            go_wp2_with (first | (go_at_call 55; (with_reducible refine (hIs.out _).mono ?_); rintro e v ⟨rfl, rfl⟩) | (go_at_call 54; (with_reducible refine (hRo.out _).mono ?_); rintro e v ⟨rfl, rfl⟩) | (at_builtin; refine wpList_append_own_at _ rfl (.tmp 58) (.tmp 72) 39 rfl (w.heap.size + 1) 51 i0 _ 2 16 Tryz.underlying39 hi hz0 hz1 hz2 rfl (by decide) u5 P.length (cellsP P) rfl ?_ ⟨wr.heap.size, 0, none⟩ 1 1 [.int .i64 x, .int .i64 yu] rfl rfl ?_ (one2 _ _) ?_ ?_ ?_ ?_; exact (by repeat (first | with_reducible assumption | with_reducible apply own_alloc | with_reducible apply own_drew | with_reducible apply own_drewN | (with_reducible refine own_setp (by assumption) ?_ ?_; (first | omega | (simp <;> omega))) | (with_reducible refine own_call (by assumption) ?_))); exact cells2 (Blk.new_at (by simp)); (unfold maxLen; omega); omega; (simp; omega); intro x8 w8 hown8 hg8 _ hloc8; have hA8 : Blk w8 w.heap.size 36 #[.int .i64 a, .int .i64 b, .int .i64 c] := Blk.grown (by (repeat (first | with_reducible assumption | (with_reducible apply Blk.new_at; (first | rfl | (simp; done))) | with_reducible apply Blk.store3 | with_reducible apply Blk.store4 | (with_reducible apply Blk.farp; (first | omega | (simp <;> omega))) | with_reducible apply Blk.allocp | with_reducible apply Blk.drew | with_reducible apply Blk.drewN))) hg8 (fun he => by have := own_ge hown _ he.symm; omega); have cA8 := hA8.cell; have fA8 := hA8.frozen; have lA8 := hA8.lt; have hz8 := hg8.size; simp at hz8; have ho8 := own_snocP (p := (x, yu)) (L := P) rfl hown8; have hPl : (P ++ [(x, yu)]).length ≤ 100001 := (by rw [List.length_append]; simp; omega)))
            have hb8 : Below w.heap.size w w8 := below_grown (fun q hq => by have := own_ge hown q hq; omega) (by simp; omega) hg8 (by repeat (first | with_reducible exact Below.refl _ _ | with_reducible assumption | with_reducible apply Below.drew | with_reducible apply below_drewN | (with_reducible apply below_setp; (first | omega | (simp <;> omega))) | (with_reducible apply below_allocp; (first | omega | (simp <;> omega))) | (with_reducible refine below_viap (by assumption) ?_ ?_; (first | omega | (simp <;> omega)))))
            clear hown8 hg8 hloc8
            go_wp2
            exact ⟨⟨k + 1, by rw [hkN.out], by omega, by rw [Hnx.out]; exact ho8, hA8, by omega, hb8⟩, by simp [intOf]; omega⟩
        · have hAe : ptA b c r x = [] := by unfold ptA; rw [if_neg hA1]
          have hA2 : ((-b * x - r).tmod (2 * c) == 0) = false := by rw [beq_eq_false_iff_ne]; exact hA1
          rw [hAe, List.nil_append] at hnx
          by_cases hr2 : 0 < r
          · by_cases hB1v : (-b * x + r).tmod (2 * c) = 0
            · have hBe : ptB b c r x = [(x, (-b * x + r).tdiv (2 * c))] := by unfold ptB; rw [if_pos ⟨hr2, hB1v⟩]
              rw [hBe] at hnx
              clear hAe hBe
              generalize hyv : (-b * x + r).tdiv (2 * c) = yv at *
              go_wp2_with (first | (go_at_call 55; (with_reducible refine (hIs.out _).mono ?_); rintro e v ⟨rfl, rfl⟩) | (go_at_call 54; (with_reducible refine (hRo.out _).mono ?_); rintro e v ⟨rfl, rfl⟩) | (at_builtin; refine wpList_append_own_at _ rfl (.tmp 90) (.tmp 104) 39 rfl (w.heap.size + 1) 51 i0 _ 2 16 Tryz.underlying39 hi hz0 hz1 hz2 rfl (by decide) u5 P.length (cellsP P) rfl ?_ ⟨wr.heap.size, 0, none⟩ 1 1 [.int .i64 x, .int .i64 yv] rfl rfl ?_ (one2 _ _) ?_ ?_ ?_ ?_; exact (by repeat (first | with_reducible assumption | with_reducible apply own_alloc | with_reducible apply own_drew | with_reducible apply own_drewN | (with_reducible refine own_setp (by assumption) ?_ ?_; (first | omega | (simp <;> omega))) | (with_reducible refine own_call (by assumption) ?_))); exact cells2 (Blk.new_at (by simp)); (unfold maxLen; omega); omega; (simp; omega); intro x9 w9 hown9 hg9 _ hloc9))
              have hz9 := hg9.size
              simp at hz9
              have ho9 := own_snocP (p := (x, yv)) hnx.out hown9
              have hb9 : Below w.heap.size w w9 := below_grown (fun q hq => by have := own_ge hown q hq; omega) (by simp; omega) hg9 (by repeat (first | with_reducible exact Below.refl _ _ | with_reducible assumption | with_reducible apply Below.drew | with_reducible apply below_drewN | (with_reducible apply below_setp; (first | omega | (simp <;> omega))) | (with_reducible apply below_allocp; (first | omega | (simp <;> omega))) | (with_reducible refine below_viap (by assumption) ?_ ?_; (first | omega | (simp <;> omega)))))
              have hA9 : Blk w9 w.heap.size 36 #[.int .i64 a, .int .i64 b, .int .i64 c] := Blk.grown (by (repeat (first | with_reducible assumption | (with_reducible apply Blk.new_at; (first | rfl | (simp; done))) | with_reducible apply Blk.store3 | with_reducible apply Blk.store4 | (with_reducible apply Blk.farp; (first | omega | (simp <;> omega))) | with_reducible apply Blk.allocp | with_reducible apply Blk.drew | with_reducible apply Blk.drewN))) hg9 (fun he => by have := own_ge hown _ he.symm; omega)
              go_wp2
              exact ⟨⟨k + 1, by rw [hkN.out], by omega, ho9, hA9, by omega, hb9⟩, by simp [intOf]; omega⟩
            · have hB2v : ((-b * x + r).tmod (2 * c) == 0) = false := by rw [beq_eq_false_iff_ne]; exact hB1v
              have hBe : ptB b c r x = [] := by unfold ptB; rw [if_neg (fun h => hB1v h.2)]
              have Hnx : Hid (ptsK (-e) b c n m (k + 1) = P) := Lib.hid (by rw [hnx.out, hBe]; simp)
              clear hnx hAe hBe
              go_wp2_with (first | (go_at_call 55; (with_reducible refine (hIs.out _).mono ?_); rintro e v ⟨rfl, rfl⟩) | (go_at_call 54; (with_reducible refine (hRo.out _).mono ?_); rintro e v ⟨rfl, rfl⟩))
              exact ⟨⟨k + 1, by rw [hkN.out], by omega, by rw [Hnx.out]; exact hown, hA, hsz, hbel⟩, by simp [intOf]; omega⟩
          · have hr3 : decide (0 < r) = false := decide_eq_false hr2
            have hBe : ptB b c r x = [] := by unfold ptB; rw [if_neg (fun h => hr2 h.1)]
            have Hnx : Hid (ptsK (-e) b c n m (k + 1) = P) := Lib.hid (by rw [hnx.out, hBe]; simp)
            clear hnx hAe hBe
            go_wp2_with (first | (go_at_call 55; (with_reducible refine (hIs.out _).mono ?_); rintro e v ⟨rfl, rfl⟩) | (go_at_call 54; (with_reducible refine (hRo.out _).mono ?_); rintro e v ⟨rfl, rfl⟩))
            exact ⟨⟨k + 1, by rw [hkN.out], by omega, by rw [Hnx.out]; exact hown, hA, hsz, hbel⟩, by simp [intOf]; omega⟩
    · have ek : (2 * m + 1).toNat = k := by omega
      have hlx : decide (x ≤ m) = false := decide_eq_false hle
      rw [ek]
      go_wp2
      go_ret
      exact ⟨_, rfl, own_base (by omega) hown, hbel⟩
end Go.Proofs.YtblcmkhkbgikoaaGreat
