/- Contracts: the Kronecker symbol, the factor of the conductor, the number of automorphs, the class number by the conductor, of the program. -/
import Derived.Test.YtkkamlhpappebaaCG
import Derived.Test.YtkkamlhpappebaaSY
namespace Go.Proofs.Ytkkamlhpappebaa
open Go.RowKit

def KrSt (R a : Int) (w : World) (m : Nat) (v1 v5 : Value) (wr : World) : Prop :=
  ∃ n s : Int, v1 = .int .i64 n ∧ v5 = .int .i64 s ∧ (s = 1 ∨ s = -1) ∧ Hid (kroT m a n = true) ∧ Hid (s * kro m a n = R) ∧ w = wr
theorem kroT_in {m : Nat} {a n : Int} (h : kroT m a n = true) : ∃ m', m = m' + 1 ∧ 1 ≤ n ∧ n ≤ 2000 := by
  cases m with
  | zero => simp [kroT] at h
  | succ m =>
    simp only [kroT, Bool.and_eq_true, decide_eq_true_eq] at h
    exact ⟨m, rfl, h.1.1, h.1.2⟩
theorem tmod_two {a : Int} : a.tmod 2 = 0 ↔ a % 2 = 0 :=
  ⟨fun h => Int.emod_eq_zero_of_dvd (Int.dvd_of_tmod_eq_zero h), fun h => Int.tmod_eq_zero_of_dvd (Int.dvd_of_emod_eq_zero h)⟩

set_option maxRecDepth 100000 in
set_option maxHeartbeats 1600000 in
theorem kronecker_any (a n : Int) (w : World) (hT : kroT 40 a n = true) :
    Calls Try.prog 166 #[.int .i64 a, .int .i64 n] w fun e w' => e = .returned (.int .i64 (kroN a n)) ∧ w = w' := by
  obtain ⟨_, _, n1, n2⟩ := kroT_in hT
  have hA := Lib.hid (fun w => abs_any n w (by omega) (by omega))
  have hna : (n.natAbs : Int) = n := by omega
  rw [hna] at hA
  obtain ⟨R, hR⟩ : ∃ R, kroN a n = R := ⟨_, rfl⟩
  have HR := Lib.hid (show 1 * kro 40 a n = R from by rw [Int.one_mul]; exact hR)
  have HT := Lib.hid hT
  rw [hR]
  have h0 : (n == 0) = false := by rw [beq_eq_false_iff_ne]; omega
  have hn0 : decide (n < 0) = false := decide_eq_false (by omega)
  have hTwo := Lib.hid (fun w => symbolOfTwo_any a w)
  have ht1 : two a = 1 ∨ two a = -1 := by unfold two; split <;> simp
  have hJ := Lib.hid (fun n w h1 h2 h3 => jacobi_any a n w h1 h2 h3)
  clear hR hT hna
  go_enter Try.func166, Try.ntmps166
  go_wp2_with (go_at_call 123; (with_reducible refine (hA.out _).mono ?_); rintro e v ⟨rfl, rfl⟩)
  go_loopg [1, 5] 40 (fun m v1 v5 wr => KrSt R a w m v1 v5 wr)
  case atStart => exact ⟨n, 1, rfl, rfl, .inl rfl, HT, HR, rfl⟩
  case round =>
    clear HT HR h0 hn0 n1 n2 hA
    obtain ⟨n, s, rfl, rfl, hs, hT, hR, rfl⟩ := hrel
    obtain ⟨m, rfl, n1, n2⟩ := kroT_in hT.out
    have hT2 := hT.out
    have hR2 := hR.out
    have hnt : n.tmod 2 = n % 2 := Int.tmod_eq_emod_of_nonneg (by omega)
    by_cases he : n % 2 = 0
    · by_cases ha : a % 2 = 0
      · simp only [kro, if_pos he, if_pos ha, Int.mul_zero] at hR2
        subst hR2
        have hat := tmod_two.2 ha
        clear hT2 hT hR
        go_wp2
        go_ret
        exact ⟨rfl, rfl⟩
      · simp only [kroT, kro, if_pos he, if_neg ha, Bool.and_eq_true] at hT2 hR2
        have HT2 := Lib.hid hT2.2
        have hat : (a.tmod 2 == 0) = false := by rw [beq_eq_false_iff_ne]; exact fun h => ha (tmod_two.1 h)
        have hq : n.tdiv 2 = n / 2 := Int.tdiv_eq_ediv_of_nonneg (by omega)
        have hw1 : wrap64 (n / 2) = n / 2 := IntWalk.wrap64_in _ (by omega)
        have HR2 : Hid (s * two a * kro m a (n / 2) = R) := Lib.hid (by rw [Int.mul_assoc]; exact hR2)
        have hs2 : s * two a = 1 ∨ s * two a = -1 := by rcases hs with rfl | rfl <;> rcases ht1 with h | h <;> rw [h] <;> simp
        have hw2 : wrap64 (s * two a) = s * two a := IntWalk.wrap64_in _ (by omega)
        clear hT2 hR2 hT hR
        generalize two a = t at *
        go_wp2_with (go_at_call 204; (with_reducible refine (hTwo.out _).mono ?_); rintro e v ⟨rfl, rfl⟩)
        go_roundg m
        case measure => omega
        case rel => exact ⟨_, _, rfl, rfl, hs2, HT2, HR2, rfl⟩
    · simp only [kroT, kro, if_neg he, Bool.and_eq_true, decide_eq_true_eq] at hT2 hR2
      have hJn := Lib.hid (fun w => hJ.out n w (by omega) (by omega) (by omega))
      have hne : (n % 2 == 0) = false := by rw [beq_eq_false_iff_ne]; exact he
      obtain ⟨_, j1, j2⟩ := hT2
      have hw2 : wrap64 (s * jacS (a % n) n) = s * jacS (a % n) n := by
        rcases hs with rfl | rfl
        · rw [Int.one_mul]; exact IntWalk.wrap64_in _ (by omega)
        · rw [Int.neg_mul, Int.one_mul]; exact IntWalk.wrap64_in _ (by omega)
      have HR := Lib.hid hR2
      clear hR2 hT hR
      generalize jacS (a % n) n = j at *
      generalize hsj : s * j = sj at *
      have hne2 : ¬ n % 2 = 0 := he
      go_wp2_with (go_at_call 205; (with_reducible refine (hJn.out _).mono ?_); rintro e v ⟨rfl, rfl⟩)
      go_ret
      exact ⟨ret_int (by rw [← HR.out]; first | rfl | exact hw2 | exact hsj | exact hsj.symm), rfl⟩

def CfSt (e R : Int) (P : List Int) (w1 : World) (v5 v12 : Value) (wr : World) : Prop :=
  ∃ (j : Nat) (out : Int), v12 = .int .i64 j ∧ j ≤ P.length ∧ v5 = .int .i64 out ∧ Hid (cfT e out (P.drop j) = true) ∧ Hid ((P.drop j).foldl (fun out p => out / p * (p - kroN e p)) out = R) ∧ Below w1.heap.size w1 wr

set_option maxRecDepth 100000 in
set_option maxHeartbeats 1600000 in
theorem condFac_any (e k : Int) (w : World) (h1 : 1 ≤ k) (h2 : k ≤ 60) (hT : cfT e k (prims k) = true) :
    Calls Try.prog 86 #[.int .i64 e, .int .i64 k] w fun e' w' => e' = .returned (.int .i64 (cfac e k)) ∧ Below w.heap.size w w' := by
  have hP := Lib.hid (fun w => primesOf_any k w h1 (by omega))
  have hl : (prims k).length ≤ 100000 := by
    apply Classical.byContradiction
    intro hlt
    have h9 : ∀ (P : List Int) (o : Int), cfT e o P = true → ∀ x ∈ P, 2 ≤ x ∧ x ≤ 60 := by
      intro P
      induction P with
      | nil => intro o _ x hx; simp at hx
      | cons y P ih =>
        intro o h x hx
        simp only [cfT, Bool.and_eq_true, decide_eq_true_eq] at h
        rcases List.mem_cons.1 hx with rfl | hx
        · exact ⟨h.1.1.1.1.1.1.1, h.1.1.1.1.1.1.2⟩
        · exact ih _ h.2 x hx
    have hnd : ∀ P : List Int, SAsc P → P.Pairwise (· < ·) := by
      intro P
      induction P with
      | nil => intro _; exact .nil
      | cons y P ih => intro h; exact .cons (fun z hz => h.1 z hz) (ih h.2)
    have h10 := hnd _ (prims_sasc h1)
    have h11 : (prims k).Nodup := List.Pairwise.imp (fun h e => by omega) h10
    have h12 := h11.length_le_of_subset (l₂ := (List.range 61).map Int.ofNat) (fun x hx => by
      have := h9 _ _ hT x hx
      exact List.mem_map.2 ⟨x.toNat, List.mem_range.2 (by omega), by show ((x.toNat : Nat) : Int) = x; omega⟩)
    simp at h12
    omega
  obtain ⟨R, hR⟩ : ∃ R, cfac e k = R := ⟨_, rfl⟩
  have HR := Lib.hid (show (prims k).foldl (fun out p => out / p * (p - kroN e p)) k = R from hR)
  have HT := Lib.hid hT
  rw [hR]
  clear hR hT
  generalize prims k = P at *
  go_enter Try.func86, Try.ntmps86
  go_wp2_with (go_at_call 158; refine (hP.out _).mono ?_; rintro e' w1 ⟨vp, rfl, hop, hb1⟩; obtain ⟨bp, cp, rfl⟩ := own_shape hop; have hz1 := hb1.size)
  have HO := Lib.hid hop
  clear hop
  go_loopw [5, 12] (fun v5 v12 wr => CfSt e R P w1 v5 v12 wr) (fun _ v12 _ => P.length - (intOf v12).toNat)
  case atStart => exact ⟨0, k, rfl, Nat.zero_le _, rfl, HT, HR, Below.refl _ _⟩
  case round =>
    clear HT HR
    obtain ⟨j, out, rfl, hj, rfl, hT, hR, hbel⟩ := hrel
    have hz := hbel.size
    by_cases hlt : j < P.length
    · obtain ⟨g, rfl, lg, c1⟩ := own_elemI (own_call hbel HO.out) hlt
      have hd : P.drop j = P[j] :: P.drop (j + 1) := List.drop_eq_getElem_cons hlt
      have hT2 := hT.out
      have hR2 := hR.out
      rw [hd] at hT2 hR2
      generalize P[j] = p at *
      simp only [cfT, List.foldl_cons, Bool.and_eq_true, decide_eq_true_eq] at hT2 hR2
      obtain ⟨⟨⟨⟨⟨⟨⟨p1, p2⟩, o1⟩, o2⟩, hk⟩, x1⟩, x2⟩, hrest⟩ := hT2
      have hK := Lib.hid (fun w => kronecker_any e p w hk)
      have HR2 := Lib.hid hR2
      have HT2 := Lib.hid hrest
      have hq : out.tdiv p = out / p := Int.tdiv_eq_ediv_of_nonneg o1
      have q1 : 0 ≤ out / p := Int.ediv_nonneg o1 (by omega)
      have q2 : out / p ≤ out := Int.ediv_le_self _ o1
      generalize kroN e p = x at *
      have hw1 : wrap64 (out / p) = out / p := IntWalk.wrap64_in _ (by omega)
      have hw2 : wrap64 (p - x) = p - x := IntWalk.wrap64_in _ (by omega)
      have hm1 : 0 ≤ out / p * (p - x) := Int.mul_nonneg q1 (by omega)
      have hm2 : out / p * (p - x) ≤ 100000 * 61 := Int.mul_le_mul (by omega) (by omega) (by omega) (by omega)
      have hw3 : wrap64 (out / p * (p - x)) = out / p * (p - x) := IntWalk.wrap64_in _ (by omega)
      have hp0 : ¬ p = 0 := by omega
      clear hT hR hd hR2 hrest hk
      go_wp2
      go_quiet (exact (hK.out _).mono (by rintro e w' ⟨rfl, rfl⟩; exact ⟨rfl, _, rfl⟩))
      go_wp2
      go_roundw
      case rel => exact ⟨j + 1, _, by go_num, hlt, rfl, HT2, HR2, (by repeat (first | with_reducible exact Below.refl _ _ | with_reducible assumption | with_reducible apply Below.drew | with_reducible apply below_drewN | (with_reducible apply below_setp; (first | omega | (simp <;> omega))) | (with_reducible apply below_allocp; (first | omega | (simp <;> omega))) | (with_reducible refine below_viap (by assumption) ?_ ?_; (first | omega | (simp <;> omega)))))⟩
      case measure => (first | (simp [intOf]; done) | (simp [intOf]; omega))
    · have ej : j = P.length := by omega
      have hR2 := hR.out
      rw [ej, List.drop_length] at hR2
      have hRo : out = R := hR2
      subst hRo
      clear hR2 hT hR
      go_wp2
      go_ret
      exact ⟨rfl, below_via hb1 hbel hz1⟩

set_option maxHeartbeats 800000 in
theorem autC_any (d : Int) (w : World) (h : isDisc d = true) :
    Calls Try.prog 31 #[.int .i64 d] w fun e w' => e = .returned (.tuple #[.int .i64 (units d), .bool true]) ∧ w = w' := by
  unfold units
  by_cases h3 : d = -3
  · subst h3
    go_enter Try.func31, Try.ntmps31
    go_wp2_with (go_at_call 76; (with_reducible refine (negDisc_eq (-3) true _ h).mono ?_); rintro e v ⟨rfl, rfl⟩)
    go_ret2
    exact ⟨rfl, rfl⟩
  · rw [if_neg h3]
    have e3 : (d == -3) = false := by rw [beq_eq_false_iff_ne]; exact h3
    by_cases h4 : d = -4
    · subst h4
      go_enter Try.func31, Try.ntmps31
      go_wp2_with (go_at_call 76; (with_reducible refine (negDisc_eq (-4) true _ h).mono ?_); rintro e v ⟨rfl, rfl⟩)
      go_ret2
      exact ⟨rfl, rfl⟩
    · rw [if_neg h4]
      have e4 : (d == -4) = false := by rw [beq_eq_false_iff_ne]; exact h4
      go_enter Try.func31, Try.ntmps31
      go_wp2_with (go_at_call 76; (with_reducible refine (negDisc_eq d true _ h).mono ?_); rintro e v ⟨rfl, rfl⟩)
      go_ret2
      exact ⟨rfl, rfl⟩
set_option maxHeartbeats 800000 in
theorem autc_any (d : Int) (w : World) (h : isDisc d = true) :
    Calls Try.prog 87 #[.int .i64 d] w fun e w' => e = .returned (.int .i64 (units d)) ∧ w = w' := by
  have hA := Lib.hid (fun w => autC_any d w h)
  generalize units d = u at *
  go_enter Try.func87, Try.ntmps87
  go_wp2_with (go_at_call 31; (with_reducible refine (hA.out _).mono ?_); rintro e v ⟨rfl, rfl⟩)
  go_ret
  exact ⟨rfl, rfl⟩
end Go.Proofs.Ytkkamlhpappebaa
