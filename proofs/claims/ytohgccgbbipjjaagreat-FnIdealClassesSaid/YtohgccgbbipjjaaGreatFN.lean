/- Contracts: the square-free part, the fundamental part, the Kronecker symbol, IsFundamental and CharacterOf of the program (written by gen_FN.py). -/
import Derived.Test.YtohgccgbbipjjaaGreatKN
import Derived.Test.YtohgccgbbipjjaaGreatNA
import Derived.Test.YtohgccgbbipjjaaGreatE1
import Derived.Test.YtohgccgbbipjjaaGreatCA
import Derived.BigQuiet
import Derived.Deep.LoopGhost
namespace Go.Proofs.YtohgccgbbipjjaaGreat
open Go.RowKit

/-- The loops of the square-free part end, all numbers small. -/
def sqfT : Nat → Bool → Int → Int → Int → Bool
  | 0, _, _, _, _ => false
  | m + 1, false, p, n, k => (decide (2 ≤ p) && decide (p ≤ 60) && decide (-2100 ≤ n) && decide (n ≤ 2100) && decide (1 ≤ k) && decide (k ≤ 60)) && (if p * p ≤ (n.natAbs : Int) then sqfT m true p n k else true)
  | m + 1, true, p, n, k => (decide (2 ≤ p) && decide (p ≤ 60) && decide (-2100 ≤ n) && decide (n ≤ 2100) && decide (1 ≤ k) && decide (k ≤ 60)) && (if n.tmod (p * p) = 0 then sqfT m true p (n.tdiv (p * p)) (k * p) else sqfT m false (p + 1) n k)
/-- The loop of the Kronecker symbol ends. -/
def kroT : Nat → Int → Int → Bool
  | 0, _, _ => false
  | m + 1, a, n => (decide (1 ≤ n) && decide (n ≤ 10000)) && (if n % 2 = 0 then (if a % 2 = 0 then true else kroT m a (n / 2)) else decide (-1 ≤ jacS (a % n) n) && decide (jacS (a % n) n ≤ 1))
def SqSt (R : Int × Int) (w : World) (m : Nat) (v0 v4 v5 : Value) (wr : World) : Prop :=
  ∃ n k p : Int, v0 = .int .i64 n ∧ v4 = .int .i64 k ∧ v5 = .int .i64 p ∧ Hid (sqfT m false p n k = true) ∧ Hid (sqf m false p n k = R) ∧ w = wr
def SqIn (R : Int × Int) (w : World) (p : Int) (m0 m : Nat) (v0 v4 : Value) (wr : World) : Prop :=
  ∃ n k : Int, v0 = .int .i64 n ∧ v4 = .int .i64 k ∧ m ≤ m0 ∧ Hid (sqfT m true p n k = true) ∧ Hid (sqf m true p n k = R) ∧ w = wr
theorem sqfT_in {m : Nat} {b : Bool} {p n k : Int} (h : sqfT m b p n k = true) : ∃ m', m = m' + 1 ∧ (2 ≤ p ∧ p ≤ 60) ∧ (-2100 ≤ n ∧ n ≤ 2100) ∧ 1 ≤ k ∧ k ≤ 60 := by
  cases m with
  | zero => cases b <;> simp [sqfT] at h
  | succ m =>
    refine ⟨m, rfl, ?_⟩
    cases b <;> (simp only [sqfT, Bool.and_eq_true, decide_eq_true_eq] at h; obtain ⟨⟨⟨⟨⟨⟨a, b⟩, c⟩, d⟩, e⟩, f⟩, _⟩ := h; exact ⟨⟨a, b⟩, ⟨c, d⟩, e, f⟩)
theorem psq_bd {p : Int} (h1 : 2 ≤ p) (h2 : p ≤ 60) : 4 ≤ p * p ∧ p * p ≤ 3600 :=
  ⟨Int.mul_le_mul h1 h1 (by omega) (by omega), Int.mul_le_mul h2 h2 (by omega) (by omega)⟩

set_option maxRecDepth 100000 in
set_option maxHeartbeats 1600000 in
theorem squareFree_any (d : Int) (w : World) (hT : sqfT 4100 false 2 d 1 = true) :
    Calls Tryz.prog 108 #[.int .i64 d] w fun e w' => e = .returned (.tuple #[.int .i64 (sqF d).1, .int .i64 (sqF d).2]) ∧ w = w' := by
  have hA := Lib.hid abs_any
  obtain ⟨R, hR⟩ : ∃ R, sqF d = R := ⟨_, rfl⟩
  have HR := Lib.hid (show sqf 4100 false 2 d 1 = R from hR)
  have HT := Lib.hid hT
  rw [hR]
  clear hR hT
  go_enter Tryz.func108, Tryz.ntmps108
  go_wp2
  go_loopg [0, 4, 5] 4100 (fun m v0 v4 v5 wr => SqSt R w m v0 v4 v5 wr)
  case atStart => exact ⟨d, 1, 2, rfl, rfl, rfl, HT, HR, rfl⟩
  case round =>
    clear HT HR
    obtain ⟨n, k, p, rfl, rfl, rfl, hT, hR, rfl⟩ := hrel
    obtain ⟨m, rfl, ⟨p1, p2⟩, ⟨n1, n2⟩, k1, k2⟩ := sqfT_in hT.out
    obtain ⟨q1, q2⟩ := psq_bd p1 p2
    have hw1 : wrap64 (p * p) = p * p := IntWalk.wrap64_in _ (by omega)
    have hAn := Lib.hid (fun w => hA.out n w (by omega) (by omega))
    have hT2 := hT.out
    have hR2 := hR.out
    by_cases hle : p * p ≤ (n.natAbs : Int)
    · simp only [sqfT, sqf, if_pos hle, Bool.and_eq_true] at hT2 hR2
      have HT2 := Lib.hid hT2.2
      have HR2 := Lib.hid hR2
      clear hT2 hR2 hT hR
      go_wp2_with (go_at_call 42; (with_reducible refine (hAn.out _).mono ?_); rintro e v ⟨rfl, rfl⟩)
      go_loopg [0, 4] m (fun m1 v0 v4 wr => SqIn R w p m m1 v0 v4 wr)
      case atStart => exact ⟨n, k, rfl, rfl, Nat.le_refl _, HT2, HR2, rfl⟩
      case round =>
        clear HT2 HR2 n1 n2 k1 k2 hle hAn
        obtain ⟨n, k, rfl, rfl, hm, hT, hR, rfl⟩ := hrel
        obtain ⟨m2, rfl, _, ⟨n1, n2⟩, k1, k2⟩ := sqfT_in hT.out
        have hT2 := hT.out
        have hR2 := hR.out
        have hz : ¬ p * p = 0 := by omega
        by_cases ht : n.tmod (p * p) = 0
        · simp only [sqfT, sqf, if_pos ht, Bool.and_eq_true] at hT2 hR2
          have HT2 := Lib.hid hT2.2
          have HR2 := Lib.hid hR2
          obtain ⟨m3, hm3, _, ⟨u1, u2⟩, u3, u4⟩ := sqfT_in hT2.2
          have hw2 : wrap64 (n.tdiv (p * p)) = n.tdiv (p * p) := IntWalk.wrap64_in _ (by omega)
          have hw3 : wrap64 (k * p) = k * p := IntWalk.wrap64_in _ (by omega)
          clear hT2 hR2 hT hR hm3
          go_wp2
          go_roundg m2
          case measure => omega
          case rel => exact ⟨_, _, rfl, rfl, by omega, HT2, HR2, rfl⟩
        · simp only [sqfT, sqf, if_neg ht, Bool.and_eq_true] at hT2 hR2
          have HT2 := Lib.hid hT2.2
          have HR2 := Lib.hid hR2
          have htd : (n.tmod (p * p) == 0) = false := by rw [beq_eq_false_iff_ne]; exact ht
          have hw4 : wrap64 (p + 1) = p + 1 := IntWalk.wrap64_in _ (by omega)
          clear hT2 hR2 hT hR
          go_wp2
          go_roundg m2
          case measure => omega
          case rel => exact ⟨_, _, _, rfl, rfl, rfl, HT2, HR2, rfl⟩
    · simp only [sqf, if_neg hle] at hR2
      have hled : decide (p * p ≤ (n.natAbs : Int)) = false := decide_eq_false hle
      subst hR2
      clear hT2 hT hR
      go_wp2_with (go_at_call 42; (with_reducible refine (hAn.out _).mono ?_); rintro e v ⟨rfl, rfl⟩)
      go_ret2
      exact ⟨rfl, rfl⟩

/-- What the fundamental part asks. -/
structure FuP (d : Int) : Prop where
  sq : sqfT 4100 false 2 d 1 = true
  s1 : -2100 ≤ (sqF d).1
  s2 : (sqF d).1 ≤ 2100
  k1 : 0 ≤ (sqF d).2
  k2 : (sqF d).2 ≤ 60
set_option maxHeartbeats 800000 in
theorem fundamental_any (d : Int) (w : World) (h : FuP d) :
    Calls Tryz.prog 89 #[.int .i64 d] w fun e w' => e = .returned (.tuple #[.int .i64 (dsp d).1, .int .i64 (dsp d).2]) ∧ w = w' := by
  have hS := Lib.hid (fun w => squareFree_any d w h.sq)
  have h1 := h.s1; have h2 := h.s2; have h3 := h.k1; have h4 := h.k2
  unfold dsp
  generalize sqF d = R at *
  obtain ⟨s, k⟩ := R
  dsimp only at *
  have hM := Lib.hid (fun w => mod_any s 4 w (by omega) (by omega))
  clear h
  by_cases hs : s % 4 = 1
  · rw [if_pos hs]
    rw [hs] at hM
    go_enter Tryz.func89, Tryz.ntmps89
    go_wp2_with (first | (go_at_call 108; (with_reducible refine (hS.out _).mono ?_); rintro e v ⟨rfl, rfl⟩) | (go_at_call 76; (with_reducible refine (hM.out _).mono ?_); rintro e v ⟨rfl, rfl⟩))
    go_ret2
    exact ⟨rfl, rfl⟩
  · rw [if_neg hs]
    have hne : (s % 4 != 1) = true := by rw [bne_iff_ne]; exact hs
    have ht : k.tdiv 2 = k / 2 := Int.tdiv_eq_ediv_of_nonneg h3
    have hw1 : wrap64 (4 * s) = 4 * s := IntWalk.wrap64_in _ (by omega)
    have hw2 : wrap64 (k / 2) = k / 2 := IntWalk.wrap64_in _ (by omega)
    generalize s % 4 = x at *
    go_enter Tryz.func89, Tryz.ntmps89
    go_wp2_with (first | (go_at_call 108; (with_reducible refine (hS.out _).mono ?_); rintro e v ⟨rfl, rfl⟩) | (go_at_call 76; (with_reducible refine (hM.out _).mono ?_); rintro e v ⟨rfl, rfl⟩))
    go_ret2
    exact ⟨rfl, rfl⟩
def KrSt (R a : Int) (w : World) (m : Nat) (v1 v5 : Value) (wr : World) : Prop :=
  ∃ n s : Int, v1 = .int .i64 n ∧ v5 = .int .i64 s ∧ (s = 1 ∨ s = -1) ∧ Hid (kroT m a n = true) ∧ Hid (s * kro m a n = R) ∧ w = wr
theorem kroT_in {m : Nat} {a n : Int} (h : kroT m a n = true) : ∃ m', m = m' + 1 ∧ 1 ≤ n ∧ n ≤ 10000 := by
  cases m with
  | zero => simp [kroT] at h
  | succ m =>
    simp only [kroT, Bool.and_eq_true, decide_eq_true_eq] at h
    exact ⟨m, rfl, h.1.1, h.1.2⟩
theorem tmod_two {a : Int} : a.tmod 2 = 0 ↔ a % 2 = 0 :=
  ⟨fun h => Int.emod_eq_zero_of_dvd (Int.dvd_of_tmod_eq_zero h), fun h => Int.tmod_eq_zero_of_dvd (Int.dvd_of_emod_eq_zero h)⟩

set_option maxRecDepth 100000 in
set_option maxHeartbeats 1600000 in
theorem kronecker_any (a n : Int) (w : World) (hT : kroT 40 a n = true) :
    Calls Tryz.prog 44 #[.int .i64 a, .int .i64 n] w fun e w' => e = .returned (.int .i64 (kroN a n)) ∧ w = w' := by
  obtain ⟨_, _, n1, n2⟩ := kroT_in hT
  have hA := Lib.hid (fun w => abs_any n w (by omega) (by omega))
  have hna : (n.natAbs : Int) = n := by omega
  rw [hna] at hA
  obtain ⟨R, hR⟩ : ∃ R, kroN a n = R := ⟨_, rfl⟩
  have HR := Lib.hid (show 1 * kro 40 a n = R from by rw [Int.one_mul]; exact hR)
  have HT := Lib.hid hT
  rw [hR]
  have h0 : (n == 0) = false := by rw [beq_eq_false_iff_ne]; omega
  have hn0 : decide (n < 0) = false := decide_eq_false (by omega)
  have hTwo := Lib.hid (fun w => symbolOfTwo_any a w)
  have ht1 : two a = 1 ∨ two a = -1 := by unfold two; split <;> simp
  have hJ := Lib.hid (fun n w h1 h2 h3 => jacobi_any a n w h1 h2 h3)
  clear hR hT hna
  go_enter Tryz.func44, Tryz.ntmps44
  go_wp2_with (go_at_call 42; (with_reducible refine (hA.out _).mono ?_); rintro e v ⟨rfl, rfl⟩)
  go_loopg [1, 5] 40 (fun m v1 v5 wr => KrSt R a w m v1 v5 wr)
  case atStart => exact ⟨n, 1, rfl, rfl, .inl rfl, HT, HR, rfl⟩
  case round =>
    clear HT HR h0 hn0 n1 n2 hA
    obtain ⟨n, s, rfl, rfl, hs, hT, hR, rfl⟩ := hrel
    obtain ⟨m, rfl, n1, n2⟩ := kroT_in hT.out
    have hT2 := hT.out
    have hR2 := hR.out
    have hnt : n.tmod 2 = n % 2 := Int.tmod_eq_emod_of_nonneg (by omega)
    by_cases he : n % 2 = 0
    · by_cases ha : a % 2 = 0
      · simp only [kro, if_pos he, if_pos ha, Int.mul_zero] at hR2
        subst hR2
        have hat := tmod_two.2 ha
        clear hT2 hT hR
        go_wp2
        go_ret
        exact ⟨rfl, rfl⟩
      · simp only [kroT, kro, if_pos he, if_neg ha, Bool.and_eq_true] at hT2 hR2
        have HT2 := Lib.hid hT2.2
        have hat : (a.tmod 2 == 0) = false := by rw [beq_eq_false_iff_ne]; exact fun h => ha (tmod_two.1 h)
        have hq : n.tdiv 2 = n / 2 := Int.tdiv_eq_ediv_of_nonneg (by omega)
        have hw1 : wrap64 (n / 2) = n / 2 := IntWalk.wrap64_in _ (by omega)
        have HR2 : Hid (s * two a * kro m a (n / 2) = R) := Lib.hid (by rw [Int.mul_assoc]; exact hR2)
        have hs2 : s * two a = 1 ∨ s * two a = -1 := by rcases hs with rfl | rfl <;> rcases ht1 with h | h <;> rw [h] <;> simp
        have hw2 : wrap64 (s * two a) = s * two a := IntWalk.wrap64_in _ (by omega)
        clear hT2 hR2 hT hR
        generalize two a = t at *
        go_wp2_with (go_at_call 77; (with_reducible refine (hTwo.out _).mono ?_); rintro e v ⟨rfl, rfl⟩)
        go_roundg m
        case measure => omega
        case rel => exact ⟨_, _, rfl, rfl, hs2, HT2, HR2, rfl⟩
    · simp only [kroT, kro, if_neg he, Bool.and_eq_true, decide_eq_true_eq] at hT2 hR2
      have hJn := Lib.hid (fun w => hJ.out n w (by omega) (by omega) (by omega))
      have hne : (n % 2 == 0) = false := by rw [beq_eq_false_iff_ne]; exact he
      obtain ⟨_, j1, j2⟩ := hT2
      have hw2 : wrap64 (s * jacS (a % n) n) = s * jacS (a % n) n := by
        rcases hs with rfl | rfl
        · rw [Int.one_mul]; exact IntWalk.wrap64_in _ (by omega)
        · rw [Int.neg_mul, Int.one_mul]; exact IntWalk.wrap64_in _ (by omega)
      have HR := Lib.hid hR2
      clear hR2 hT hR
      generalize jacS (a % n) n = j at *
      generalize hsj : s * j = sj at *
      have hne2 : ¬ n % 2 = 0 := he
      go_wp2_with (go_at_call 78; (with_reducible refine (hJn.out _).mono ?_); rintro e v ⟨rfl, rfl⟩)
      go_ret
      exact ⟨ret_int (by rw [← HR.out]; first | rfl | exact hw2 | exact hsj | exact hsj.symm), rfl⟩


def fuOk (d : Int) : Bool := sqfT 4100 false 2 d 1 && (decide (-2100 ≤ (sqF d).1) && (decide ((sqF d).1 ≤ 2100) && (decide (0 ≤ (sqF d).2) && decide ((sqF d).2 ≤ 60))))
/-- The conductor is 1 only if no square above 1 leaves a discriminant. -/
def fuSq (d : Int) : Bool := !decide ((dsp d).2 = 1) || (List.range 45).all fun f => decide (f < 2) || !decide (d % ((f : Int) * f) = 0) || !decide (d / ((f : Int) * f) % 4 < 2)
def fuAll (m : Nat) : Bool := fuOk (-(m : Int)) && fuSq (-(m : Int))
theorem fu_0 : ((List.range' 1 1000).all fuAll) = true := by decide +kernel
theorem fu_1 : ((List.range' 1001 1004).all fuAll) = true := by decide +kernel
theorem fu_5 : fuOk 5 = true := by decide +kernel
theorem fu_neg {d : Int} (h1 : -2004 ≤ d) (h2 : d ≤ -1) : fuAll (-d).toNat = true := by
  rcases Nat.lt_or_ge (-d).toNat 1001 with h3 | h3
  · exact List.all_eq_true.1 fu_0 _ (by rw [List.mem_range'_1]; omega)
  · exact List.all_eq_true.1 fu_1 _ (by rw [List.mem_range'_1]; omega)
theorem fuP_of {d : Int} (h : fuOk d = true) : FuP d := by
  unfold fuOk at h
  simp only [Bool.and_eq_true, decide_eq_true_eq] at h
  obtain ⟨a1, a2, a3, a4, a5⟩ := h
  exact ⟨a1, a2, a3, a4, a5⟩
theorem fuP_neg {d : Int} (h1 : -2004 ≤ d) (h2 : d ≤ -1) : FuP d := by
  have h := fu_neg h1 h2
  unfold fuAll at h
  rw [show -(((-d).toNat : Nat) : Int) = d by omega, Bool.and_eq_true] at h
  exact fuP_of h.1
theorem fuP_five : FuP 5 := fuP_of fu_5
/-- What a drawn discriminant is, closely. -/
def DrawnE (d : Int) : Prop := (-2004 ≤ d ∧ d ≤ 5) ∨ d = -9223372036854775808
/-- Whether a drawn number is a discriminant. -/
noncomputable def dcB (d : Int) : Bool := isNum d && (decide (d % 4 ≤ 1) && !sqB d)
theorem dcB_of {d : Int} (h : DrawnE d) (hc : dcB d = true) : FuP d := by
  unfold dcB at hc
  simp only [Bool.and_eq_true, decide_eq_true_eq, Bool.not_eq_true'] at hc
  obtain ⟨h1, h2, h3⟩ := hc
  have h1 := (isNum_iff d).1 h1
  rcases h with ⟨h4, h5⟩ | h4
  · by_cases hn : d ≤ -1
    · exact fuP_neg h4 hn
    · rcases (show d = 0 ∨ d = 1 ∨ d = 2 ∨ d = 3 ∨ d = 4 ∨ d = 5 by omega) with rfl | rfl | rfl | rfl | rfl | rfl
      · exfalso
        have := (rt_spec (show (0 : Int) ≤ 0 by omega))
        have e : rt 0 = 0 := by
          obtain ⟨a, b, c⟩ := this
          rcases Int.mul_eq_zero.1 (show rt 0 * rt 0 = 0 by have := Int.mul_nonneg a a; omega) with h | h <;> exact h
        unfold sqB at h3
        rw [e] at h3
        simp at h3
      · exfalso
        obtain ⟨a, b, c⟩ := (rt_spec (show (0 : Int) ≤ 1 by omega))
        have e : rt 1 = 1 := by
          have q1 : rt 1 < 2 := by
            apply Int.not_le.1; intro hl
            have := Int.mul_le_mul hl hl (by omega) a
            omega
          have q2 : rt 1 ≠ 0 := fun h0 => by rw [h0] at c; omega
          omega
        unfold sqB at h3
        rw [e] at h3
        simp at h3
      · omega
      · omega
      · exfalso
        obtain ⟨a, b, c⟩ := (rt_spec (show (0 : Int) ≤ 4 by omega))
        have e : rt 4 = 2 := by
          have q1 : rt 4 < 3 := by
            apply Int.not_le.1; intro hl
            have := Int.mul_le_mul hl hl (by omega) a
            omega
          have q2 : ¬ rt 4 ≤ 1 := fun h0 => by
            have := Int.mul_le_mul (show rt 4 + 1 ≤ 2 by omega) (show rt 4 + 1 ≤ 2 by omega) (by omega) (by omega)
            have e5 : rt 4 = 0 ∨ rt 4 = 1 := by omega
            rcases e5 with e5 | e5 <;> rw [e5] at c <;> omega
          omega
        unfold sqB at h3
        rw [e] at h3
        simp at h3
      · exact fuP_five
  · subst h4; omega
theorem dcB_disc {d : Int} (h : isDisc d = true) : dcB d = true := by
  unfold isDisc at h
  simp only [Bool.and_eq_true, decide_eq_true_eq] at h
  unfold dcB sqB
  rw [(isNum_iff d).2 (by omega), decide_eq_true (show d % 4 ≤ 1 by omega), decide_eq_false (show ¬ 0 ≤ d by omega)]
  rfl
/-- A fundamental discriminant of the range. -/
def FunD2 (d : Int) : Prop := ∀ f : Int, 2 ≤ f → f * f ∣ d → ¬ d / (f * f) % 4 < 2
theorem funD_of {d : Int} (h : isDisc d = true) (h1 : (dsp d).2 = 1) : FunD2 d := by
  unfold isDisc at h
  simp only [Bool.and_eq_true, decide_eq_true_eq] at h
  have hf := fu_neg (d := d) (by omega) (by omega)
  unfold fuAll at hf
  rw [show -(((-d).toNat : Nat) : Int) = d by omega, Bool.and_eq_true] at hf
  have h2 := hf.2
  unfold fuSq at h2
  rw [decide_eq_true h1, Bool.not_true, Bool.false_or] at h2
  intro f hf2 hd hlt
  have hle := Int.le_of_dvd (show 0 < -d by omega) (Int.dvd_neg.2 hd)
  have hf45 : f < 45 := by
    apply Int.not_le.1; intro hl
    have := Int.mul_le_mul hl hl (by omega) (by omega)
    omega
  have h3 := List.all_eq_true.1 h2 f.toNat (List.mem_range.2 (by omega))
  rw [show ((f.toNat : Nat) : Int) = f by omega] at h3
  simp only [Bool.or_eq_true, Bool.not_eq_true', decide_eq_true_eq, decide_eq_false_iff_not] at h3
  rcases h3 with (h3 | h3) | h3
  · omega
  · exact h3 (Int.emod_eq_zero_of_dvd hd)
  · exact h3 hlt
theorem kroT_pow : ∀ (m : Nat) (a n : Int), 1 ≤ n → n ≤ 10000 → n < 2 ^ m → kroT m a n = true
  | 0, _, _, h1, _, h2 => by rw [Int.pow_zero] at h2; omega
  | m + 1, a, n, h1, h0, h2 => by
    rw [Int.pow_succ] at h2
    unfold kroT
    rw [decide_eq_true h1, decide_eq_true h0]
    by_cases he : n % 2 = 0
    · rw [if_pos he]
      by_cases ha : a % 2 = 0
      · rw [if_pos ha]; rfl
      · rw [if_neg ha, kroT_pow m a (n / 2) (by omega) (by omega) (by omega)]; rfl
    · rw [if_neg he]
      have := jac_bd ((a % n).toNat + 1) (a % n) n
      have e : jacS (a % n) n = jac ((a % n).toNat + 1) (a % n) n := rfl
      rw [← e] at this
      simp only [Bool.true_and, Bool.and_eq_true, decide_eq_true_eq]
      omega
theorem kroT_all (a : Int) {n : Int} (h1 : 1 ≤ n) (h2 : n ≤ 10000) : kroT 40 a n = true := kroT_pow 40 a n h1 h2 (Int.lt_of_le_of_lt h2 (by decide))
theorem one_numF (w : World) (n : Int) (e : TypeId) : ∀ j, j < 1 → (w.alloc (.cells #[.int .i64 n] e)).cell? ⟨w.heap.size, j, none⟩ = some (.int .i64 ([n].getD j 0)) := by
  intro j hj
  match j, hj with
  | 0, _ => simp [go_sem]
theorem areNumF (n : Int) (e : TypeId) (w : World) :
    Calls Tryz.prog 40 #[.slice (some ⟨w.heap.size, 0, none⟩) 1 1] (w.alloc (.cells #[.int .i64 n] e)) fun e1 w' => e1 = .returned (.bool (isNum n)) ∧ w.alloc (.cells #[.int .i64 n] e) = w' := by
  have k := areNumbers_any w.heap.size 1 1 [n] (w.alloc (.cells #[.int .i64 n] e)) rfl (by omega) (one_numF w n e)
  rw [show [n].all isNum = isNum n by simp] at k
  exact k
set_option maxHeartbeats 800000 in
theorem isDcr_any (d : Int) (w : World) (h : d ≤ 1000000000) : Calls Tryz.prog 43 #[.int .i64 d] w fun e w' => e = .returned (.bool (dcB d)) ∧ Below w.heap.size w w' := by
  have hN := Lib.hid (fun e w => areNumF d e w)
  have hS := Lib.hid (fun w => isSquare_any d w (by omega))
  unfold dcB
  by_cases hn : isNum d = true
  · have hb := (isNum_iff d).1 hn
    have hM := Lib.hid (fun w => mod_any d 4 w (by omega) (by omega))
    rw [hn] at hN ⊢
    rw [Bool.true_and]
    by_cases hm : d % 4 ≤ 1
    · rw [decide_eq_true hm, Bool.true_and]
      generalize sqB d = s at *
      generalize d % 4 = m at *
      go_enter Tryz.func43, Tryz.ntmps43
      go_wp2_with (first | (go_at_call 40; (with_reducible refine (hN.out _ _).mono ?_); rintro e v1 ⟨rfl, rfl⟩) | (go_at_call 76; (with_reducible refine (hM.out _).mono ?_); rintro e v ⟨rfl, rfl⟩) | (go_at_call 47; (with_reducible refine (hS.out _).mono ?_); rintro e v ⟨rfl, rfl⟩))
      go_ret
      exact ⟨rfl, (by repeat (first | with_reducible exact Below.refl _ _ | with_reducible assumption | with_reducible apply Below.drew | with_reducible apply below_drewN | (with_reducible apply below_setp; (first | omega | (simp <;> omega))) | (with_reducible apply below_allocp; (first | omega | (simp <;> omega))) | (with_reducible refine below_viap (by assumption) ?_ ?_; (first | omega | (simp <;> omega)))))⟩
    · rw [decide_eq_false hm, Bool.false_and]
      have hmf : decide (d % 4 ≤ 1) = false := decide_eq_false hm
      generalize d % 4 = m at *
      go_enter Tryz.func43, Tryz.ntmps43
      go_wp2_with (first | (go_at_call 40; (with_reducible refine (hN.out _ _).mono ?_); rintro e v1 ⟨rfl, rfl⟩) | (go_at_call 76; (with_reducible refine (hM.out _).mono ?_); rintro e v ⟨rfl, rfl⟩))
      go_ret
      exact ⟨rfl, (by repeat (first | with_reducible exact Below.refl _ _ | with_reducible assumption | with_reducible apply Below.drew | with_reducible apply below_drewN | (with_reducible apply below_setp; (first | omega | (simp <;> omega))) | (with_reducible apply below_allocp; (first | omega | (simp <;> omega))) | (with_reducible refine below_viap (by assumption) ?_ ?_; (first | omega | (simp <;> omega)))))⟩
  · have hn := Bool.eq_false_iff.2 hn
    rw [hn] at hN ⊢
    rw [Bool.false_and]
    go_enter Tryz.func43, Tryz.ntmps43
    go_wp2_with (go_at_call 40; (with_reducible refine (hN.out _ _).mono ?_); rintro e v1 ⟨rfl, rfl⟩)
    go_ret
    exact ⟨rfl, (by repeat (first | with_reducible exact Below.refl _ _ | with_reducible assumption | with_reducible apply Below.drew | with_reducible apply below_drewN | (with_reducible apply below_setp; (first | omega | (simp <;> omega))) | (with_reducible apply below_allocp; (first | omega | (simp <;> omega))) | (with_reducible refine below_viap (by assumption) ?_ ?_; (first | omega | (simp <;> omega)))))⟩
set_option maxHeartbeats 800000 in
theorem chrOf_any (d k : Int) (w : World) (h : isDisc d = true) (h1 : 1 ≤ k) (h2 : k ≤ 10000) : Calls Tryz.prog 14 #[.int .i64 d, .int .i64 k] w fun e w' => e = .returned (.tuple #[.int .i64 (kroN d k), .bool true]) ∧ Below w.heap.size w w' := by
  have hc := dcB_disc h
  have hD := Lib.hid (fun w => isDcr_any d w (by unfold isDisc at h; simp only [Bool.and_eq_true, decide_eq_true_eq] at h; omega))
  rw [hc] at hD
  have hN := Lib.hid (fun e w => areNumF k e w)
  rw [(isNum_iff k).2 (by omega)] at hN
  have hK := Lib.hid (fun w => kronecker_any d k w (kroT_all d h1 h2))
  clear h hc
  go_enter Tryz.func14, Tryz.ntmps14
  go_wp2_with (first | (go_at_call 43; (with_reducible refine (hD.out _).mono ?_); rintro e v1 ⟨rfl, hB1⟩; have hZ1 := hB1.size; (try simp at hZ1); (try have zl1 : w.heap.size < v1.heap.size := by omega); (try have ze1 : w.heap.size ≤ v1.heap.size := by omega); (try have zn1 : ¬ w.heap.size = v1.heap.size := by omega); (try have zm1 : ¬ v1.heap.size = w.heap.size := by omega)) | (go_at_call 40; (with_reducible refine (hN.out _ _).mono ?_); rintro e v2 ⟨rfl, rfl⟩) | (go_at_call 44; (with_reducible refine (hK.out _).mono ?_); rintro e v ⟨rfl, rfl⟩))
  go_ret2
  exact ⟨rfl, (by repeat (first | with_reducible exact Below.refl _ _ | with_reducible assumption | with_reducible apply Below.drew | with_reducible apply below_drewN | (with_reducible apply below_setp; (first | omega | (simp <;> omega))) | (with_reducible apply below_allocp; (first | omega | (simp <;> omega))) | (with_reducible refine below_viap (by assumption) ?_ ?_; (first | omega | (simp <;> omega)))))⟩
end Go.Proofs.YtohgccgbbipjjaaGreat
