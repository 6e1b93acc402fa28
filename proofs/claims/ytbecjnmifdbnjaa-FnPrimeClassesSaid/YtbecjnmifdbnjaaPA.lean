/- Contracts: primes and the forms of primes. -/
import Derived.Test.YtbecjnmifdbnjaaUB
import Derived.Test.YtbecjnmifdbnjaaGG
import Derived.Test.YtbecjnmifdbnjaaNA
namespace Go.Proofs.Ytbecjnmifdbnjaa
open Go.RowKit

/-- No p or greater divides n, as far as the loop looks. -/
def prmT : Nat → Int → Int → Bool
  | 0, _, _ => true
  | k + 1, p, n => if p * p ≤ n then (if n % p = 0 then false else prmT k (p + 1) n) else true
def prmB (n : Int) : Bool := decide (2 ≤ n) && prmT 200 2 n
theorem prmT_end {k : Nat} {p n : Int} (h : ¬ p * p ≤ n) : prmT k p n = true := by
  cases k with
  | zero => rfl
  | succ k => rw [prmT, if_neg h]
theorem prmT_no {k : Nat} {p n : Int} (hk : 0 < k) (h : p * p ≤ n) (h2 : n % p = 0) : prmT k p n = false := by
  obtain ⟨j, rfl⟩ : ∃ j, k = j + 1 := ⟨k - 1, by omega⟩
  rw [prmT, if_pos h, if_pos h2]
theorem prmT_yes {k : Nat} {p n : Int} (hk : 0 < k) (h : p * p ≤ n) (h2 : ¬ n % p = 0) : prmT k p n = prmT (k - 1) (p + 1) n := by
  obtain ⟨j, rfl⟩ : ∃ j, k = j + 1 := ⟨k - 1, by omega⟩
  rw [prmT, if_pos h, if_neg h2]
  rfl
def PaPr (n : Int) (R : Bool) (vp : Value) : Prop := ∃ (k : Nat) (p : Int), vp = .int .i64 p ∧ (2 ≤ p ∧ p ≤ 102) ∧ Hid (prmT k p n = R) ∧ Hid (150 - p < k)
theorem pr_sq_bd {p n : Int} (h0 : 0 ≤ p) (h : p * p ≤ n) (hn : n ≤ 10000) : p ≤ 100 := by
  apply Int.not_lt.1; intro hl
  have := Int.mul_le_mul (show (101 : Int) ≤ p by omega) (show (101 : Int) ≤ p by omega) (by omega) (by omega)
  omega

set_option maxHeartbeats 800000 in
theorem isPrime_any (n : Int) (w : World) (hn : n ≤ 10000) : Calls Try.prog 141 #[.int .i64 n] w fun e w' => e = .returned (.bool (prmB n)) ∧ w = w' := by
  by_cases h2 : 2 ≤ n
  · have hB : prmB n = prmT 200 2 n := by unfold prmB; rw [decide_eq_true h2, Bool.true_and]
    obtain ⟨R, hR⟩ : ∃ R, prmT 200 2 n = R := ⟨_, rfl⟩
    rw [hB, hR]
    have HR := Lib.hid hR
    have h3 : ¬ n < 2 := by omega
    clear hB hR
    go_enter Try.func141, Try.ntmps141
    go_wp2
    go_loop [3] (fun vp => PaPr n R vp) (fun vp => (200 - intOf vp).toNat)
    case atStart => exact ⟨200, 2, rfl, ⟨by omega, by omega⟩, HR, Lib.hid (by omega)⟩
    case round =>
      obtain ⟨k, p, rfl, ⟨p1, p2⟩, hs, hk⟩ := hrel
      have hk0 : 0 < k := by have := hk.out; omega
      have pp := mul_bd (a := p) (x := p) (A := 102) (X := 102) (by omega) (by omega) (by omega) (by omega)
      obtain ⟨pp1, pp2⟩ := pp
      by_cases hpn : p * p ≤ n
      · have e5 : ¬ p = 0 := by omega
        have e6 : (p == 0) = false := by rw [beq_eq_false_iff_ne]; exact e5
        have hp3 := pr_sq_bd (by omega) hpn hn
        by_cases hd : n % p = 0
        · have e7 : (n % p == 0) = true := by rw [beq_iff_eq]; exact hd
          have hx := Lib.hid (hs.out.symm.trans (prmT_no hk0 hpn hd))
          clear hd hs hk
          go_wp2
          go_ret
          exact ⟨ret_bool hx.out.symm, rfl⟩
        · have e7 : (n % p == 0) = false := by rw [beq_eq_false_iff_ne]; exact hd
          have hs2 := Lib.hid ((prmT_yes hk0 hpn hd).symm.trans hs.out)
          have hk2 : Hid (150 - (p + 1) < ((k - 1 : Nat) : Int)) := Lib.hid (by have := hk.out; omega)
          clear hd hs hk
          go_wp2
          go_round
          case rel => exact ⟨k - 1, p + 1, rfl, ⟨by omega, by omega⟩, hs2, hk2⟩
          case measure => simp [intOf]; omega
      · have hx := Lib.hid (hs.out.symm.trans (prmT_end hpn))
        clear hs hk
        go_wp2
        go_ret
        exact ⟨ret_bool hx.out.symm, rfl⟩
  · have hB : prmB n = false := by unfold prmB; rw [decide_eq_false h2, Bool.false_and]
    have h3 : n < 2 := by omega
    rw [hB]
    clear hB h2
    go_enter Try.func141, Try.ntmps141
    go_wp2
    go_ret
    exact ⟨rfl, rfl⟩

set_option maxHeartbeats 800000 in
theorem nuPrime_any (n : Int) (w : World) (hn : n ≤ 10000) : Calls Try.prog 226 #[.int .i64 n] w fun e w' => e = .returned (.bool (prmB n)) ∧ w = w' := by
  by_cases h2 : 2 ≤ n
  · have hB : prmB n = prmT 200 2 n := by unfold prmB; rw [decide_eq_true h2, Bool.true_and]
    obtain ⟨R, hR⟩ : ∃ R, prmT 200 2 n = R := ⟨_, rfl⟩
    rw [hB, hR]
    have HR := Lib.hid hR
    have h3 : ¬ n < 2 := by omega
    clear hB hR
    go_enter Try.func226, Try.ntmps226
    go_wp2
    go_loop [3] (fun vp => PaPr n R vp) (fun vp => (200 - intOf vp).toNat)
    case atStart => exact ⟨200, 2, rfl, ⟨by omega, by omega⟩, HR, Lib.hid (by omega)⟩
    case round =>
      obtain ⟨k, p, rfl, ⟨p1, p2⟩, hs, hk⟩ := hrel
      have hk0 : 0 < k := by have := hk.out; omega
      have pp := mul_bd (a := p) (x := p) (A := 102) (X := 102) (by omega) (by omega) (by omega) (by omega)
      obtain ⟨pp1, pp2⟩ := pp
      by_cases hpn : p * p ≤ n
      · have e5 : ¬ p = 0 := by omega
        have e6 : (p == 0) = false := by rw [beq_eq_false_iff_ne]; exact e5
        have hp3 := pr_sq_bd (by omega) hpn hn
        by_cases hd : n % p = 0
        · have e7 : (n % p == 0) = true := by rw [beq_iff_eq]; exact hd
          have hx := Lib.hid (hs.out.symm.trans (prmT_no hk0 hpn hd))
          clear hd hs hk
          go_wp2
          go_ret
          exact ⟨ret_bool hx.out.symm, rfl⟩
        · have e7 : (n % p == 0) = false := by rw [beq_eq_false_iff_ne]; exact hd
          have hs2 := Lib.hid ((prmT_yes hk0 hpn hd).symm.trans hs.out)
          have hk2 : Hid (150 - (p + 1) < ((k - 1 : Nat) : Int)) := Lib.hid (by have := hk.out; omega)
          clear hd hs hk
          go_wp2
          go_round
          case rel => exact ⟨k - 1, p + 1, rfl, ⟨by omega, by omega⟩, hs2, hk2⟩
          case measure => simp [intOf]; omega
      · have hx := Lib.hid (hs.out.symm.trans (prmT_end hpn))
        clear hs hk
        go_wp2
        go_ret
        exact ⟨ret_bool hx.out.symm, rfl⟩
  · have hB : prmB n = false := by unfold prmB; rw [decide_eq_false h2, Bool.false_and]
    have h3 : n < 2 := by omega
    rw [hB]
    clear hB h2
    go_enter Try.func226, Try.ntmps226
    go_wp2
    go_ret
    exact ⟨rfl, rfl⟩

/-- A prime in range. -/
def shB (p : Int) : Bool := decide (p ≤ 10000) && prmB p
theorem shB_lo {p : Int} (h : shB p = true) : 2 ≤ p ∧ p ≤ 10000 := by
  unfold shB prmB at h
  simp only [Bool.and_eq_true, decide_eq_true_eq] at h
  exact ⟨h.2.1, h.1⟩

set_option maxHeartbeats 800000 in
theorem isShownPrime_any (p : Int) (w : World) : Calls Try.prog 147 #[.int .i64 p] w fun e w' => e = .returned (.bool (shB p)) ∧ w = w' := by
  by_cases h : p ≤ 10000
  · have hx : shB p = prmB p := by unfold shB; rw [decide_eq_true h, Bool.true_and]
    have hP := Lib.hid (fun w => isPrime_any p w h)
    rw [hx]
    clear hx
    go_enter Try.func147, Try.ntmps147
    go_wp2_with (go_at_call 141; (with_reducible refine (hP.out _).mono ?_); rintro e v ⟨rfl, rfl⟩)
    go_ret
    exact ⟨rfl, rfl⟩
  · have hx : shB p = false := by unfold shB; rw [decide_eq_false h, Bool.false_and]
    rw [hx]
    clear hx
    go_enter Try.func147, Try.ntmps147
    go_wp2
    go_ret
    exact ⟨rfl, rfl⟩

set_option maxHeartbeats 800000 in
theorem ipPrime_any (p : Int) (w : World) : Calls Try.prog 139 #[.int .i64 p] w fun e w' => e = .returned (.bool (shB p)) ∧ w = w' := by
  by_cases h : 2 ≤ p ∧ p ≤ 10000
  · have hx : shB p = prmB p := by unfold shB; rw [decide_eq_true h.2, Bool.true_and]
    have hP := Lib.hid (fun w => nuPrime_any p w h.2)
    have hl : (decide (2 ≤ p) && decide (p ≤ 10000)) = true := by rw [decide_eq_true h.1, decide_eq_true h.2]; rfl
    rw [hx]
    clear hx h
    go_enter Try.func139, Try.ntmps139
    go_wp2_with (first | (go_at_call 171; refine (l1In_any p 2 10000 _).mono ?_; rw [hl]; rintro e v1 ⟨rfl, rfl⟩) | (go_at_call 226; (with_reducible refine (hP.out _).mono ?_); rintro e v ⟨rfl, rfl⟩))
    go_ret
    exact ⟨rfl, rfl⟩
  · have hx : shB p = false := by
      rw [← Bool.not_eq_true]
      exact fun hh => h (shB_lo hh)
    have hl : (decide (2 ≤ p) && decide (p ≤ 10000)) = false := by
      rw [← Bool.not_eq_true, Bool.and_eq_true, decide_eq_true_eq, decide_eq_true_eq]
      exact h
    rw [hx]
    clear hx h
    go_enter Try.func139, Try.ntmps139
    go_wp2_with (go_at_call 171; refine (l1In_any p 2 10000 _).mono ?_; rw [hl]; rintro e v1 ⟨rfl, rfl⟩)
    go_ret
    exact ⟨rfl, rfl⟩

/-- The first form of p, from b on. -/
def pfF : Nat → Int → Int → Int → Option Fm
  | 0, _, _, _ => none
  | k + 1, d, p, b => if b ≤ p then (if (b * b - d) % (4 * p) = 0 then some ⟨p, b, (b * b - d) / (4 * p)⟩ else pfF k d p (b + 1)) else none
def pf (d p : Int) : Option Fm := pfF (p.toNat + 5) d p 0
def pfV (o : Option Fm) : Fm := o.getD ⟨0, 0, 0⟩
def pfO : Option Fm → Bool
  | none => false
  | some f => primB f
theorem pfF_end {k : Nat} {d p b : Int} (h : ¬ b ≤ p) : pfF k d p b = none := by
  cases k with
  | zero => rfl
  | succ k => rw [pfF, if_neg h]
theorem pfF_yes {k : Nat} {d p b : Int} (hk : 0 < k) (h : b ≤ p) (h2 : (b * b - d) % (4 * p) = 0) : pfF k d p b = some ⟨p, b, (b * b - d) / (4 * p)⟩ := by
  obtain ⟨j, rfl⟩ : ∃ j, k = j + 1 := ⟨k - 1, by omega⟩
  rw [pfF, if_pos h, if_pos h2]
theorem pfF_no {k : Nat} {d p b : Int} (hk : 0 < k) (h : b ≤ p) (h2 : ¬ (b * b - d) % (4 * p) = 0) : pfF k d p b = pfF (k - 1) d p (b + 1) := by
  obtain ⟨j, rfl⟩ : ∃ j, k = j + 1 := ⟨k - 1, by omega⟩
  rw [pfF, if_pos h, if_neg h2]
  rfl
theorem pfF_some : ∀ (k : Nat) (d p b : Int) (f : Fm), pfF k d p b = some f → 0 ≤ b → ∃ x, (0 ≤ x ∧ x ≤ p) ∧ (x * x - d) % (4 * p) = 0 ∧ f = ⟨p, x, (x * x - d) / (4 * p)⟩
  | 0, _, _, _, _, h, _ => by simp [pfF] at h
  | k + 1, d, p, b, f, h, hb => by
    unfold pfF at h
    split at h
    · rename_i h1
      split at h
      · rename_i h2
        injection h with h
        exact ⟨b, ⟨hb, h1⟩, h2, h.symm⟩
      · exact pfF_some k d p (b + 1) f h (by omega)
    · simp at h
def PfSt (d p : Int) (R : Option Fm) (vb : Value) : Prop := ∃ (k : Nat) (b : Int), vb = .int .i64 b ∧ (0 ≤ b ∧ b ≤ p + 1) ∧ Hid (pfF k d p b = R) ∧ Hid (p + 1 - b < k)
/-- What the loop meets at one place. -/
theorem pf_nums {d p b : Int} (D : Dsc d) (hp : 2 ≤ p ∧ p ≤ 10000) (hb : 0 ≤ b ∧ b ≤ p) : (0 ≤ b * b ∧ b * b ≤ 100000000) ∧ (1 ≤ b * b - d ∧ b * b - d ≤ 100002000) ∧ (0 ≤ (b * b - d) / (4 * p) ∧ (b * b - d) / (4 * p) ≤ 100002000) := by
  have h1 := D.lo; have h2 := D.hi
  obtain ⟨k1, k2⟩ := mul_bd (a := b) (x := b) (A := 10000) (X := 10000) (by omega) (by omega) (by omega) (by omega)
  have k3 : 0 ≤ b * b := Int.mul_nonneg hb.1 hb.1
  refine ⟨⟨k3, by omega⟩, ⟨by omega, by omega⟩, Int.ediv_nonneg (by omega) (by omega), ?_⟩
  exact Int.le_trans (Int.ediv_le_self _ (by omega)) (by omega)

set_option maxHeartbeats 1600000 in
theorem primeForm_any (d p : Int) (w : World) (D : Dsc d) (hp : 2 ≤ p ∧ p ≤ 10000) : Calls Try.prog 148 #[.int .i64 d, .int .i64 p] w fun e w' => e = .returned (.tuple #[.agg #[.int .i64 (pfV (pf d p)).a, .int .i64 (pfV (pf d p)).b, .int .i64 (pfV (pf d p)).c], .bool (pfO (pf d p))]) ∧ Below w.heap.size w w' := by
  obtain ⟨R, hR⟩ : ∃ R, pf d p = R := ⟨_, rfl⟩
  rw [hR]
  have HR : Hid (pfF (p.toNat + 5) d p 0 = R) := Lib.hid hR
  have hN := Lib.hid (fun b hb => pf_nums (b := b) D hp hb)
  have d1 := D.lo
  have d2 := D.hi
  obtain ⟨p1, p2⟩ := hp
  have e5 : ¬ 4 * p = 0 := by omega
  have e6 : (4 * p == 0) = false := by rw [beq_eq_false_iff_ne]; exact e5
  clear hR D
  go_enter Try.func148, Try.ntmps148
  go_wp2
  go_loop [6] (fun vb => PfSt d p R vb) (fun vb => (p + 2 - intOf vb).toNat)
  case atStart => exact ⟨p.toNat + 5, 0, rfl, ⟨by omega, by omega⟩, HR, Lib.hid (by omega)⟩
  case round =>
    clear HR
    obtain ⟨k, b, rfl, ⟨b1, b2⟩, hs, hk⟩ := hrel
    have hk0 : 0 < k := by have := hk.out; omega
    by_cases hbp : b ≤ p
    · obtain ⟨⟨n1, n2⟩, ⟨n3, n4⟩, ⟨n5, n6⟩⟩ := hN.out b ⟨b1, hbp⟩
      by_cases hd : (b * b - d) % (4 * p) = 0
      · have e7 : ((b * b - d) % (4 * p) == 0) = true := by rw [beq_iff_eq]; exact hd
        have hx := Lib.hid (hs.out.symm.trans (pfF_yes hk0 hbp hd))
        clear hd hs hk
        obtain ⟨c, hc⟩ : ∃ c, (b * b - d) / (4 * p) = c := ⟨_, rfl⟩
        rw [hc] at hx n5 n6
        have fa : Far p := ⟨by omega, by omega⟩
        have fb : Far b := ⟨by omega, by omega⟩
        have fc : Far c := ⟨by omega, by omega⟩
        have hC := Lib.hid (fun w => content_any p b c w fa fb fc)
        have hpb : primB ⟨p, b, c⟩ = ((Int.gcd p (Int.gcd b c) : Int) == 1) := by
          unfold primB
          rw [Bool.eq_iff_iff, decide_eq_true_eq, beq_iff_eq]
          exact ⟨fun h => by show ((Int.gcd p (Int.gcd b c) : Nat) : Int) = 1; rw [h]; rfl, fun h => by exact Int.ofNat.inj h⟩
        obtain ⟨y, hy⟩ : ∃ y, primB ⟨p, b, c⟩ = y := ⟨_, rfl⟩
        rw [hy] at hpb
        have hg := hpb.symm
        have hxo : Hid (pfO R = y) := Lib.hid (by rw [hx.out]; exact hy)
        generalize (Int.gcd p (Int.gcd b c) : Int) = g at hC hg
        clear hpb hy
        go_wp2
        go_region_with (go_at_call 125; (with_reducible refine (hC.out _).mono ?_); rintro e v1 ⟨rfl, hB1⟩; have hZ1 := hB1.size; (try simp at hZ1); (try have zl1 : w.heap.size < v1.heap.size := by omega); (try have ze1 : w.heap.size ≤ v1.heap.size := by omega); (try have zn1 : ¬ w.heap.size = v1.heap.size := by omega); (try have zm1 : ¬ v1.heap.size = w.heap.size := by omega); have hA1 : Blk v1 (w.heap.size) 35 #[.int .i64 0, .int .i64 0, .int .i64 0] := Blk.call (by (repeat (first | with_reducible assumption | (with_reducible apply Blk.new_at; (first | rfl | (simp; done))) | with_reducible apply Blk.store3 | with_reducible apply Blk.store4 | (with_reducible apply Blk.farp; (first | omega | (simp <;> omega))) | with_reducible apply Blk.allocp | with_reducible apply Blk.drew | with_reducible apply Blk.drewN))) hB1; have cA1 := hA1.cell; have fA1 := hA1.frozen; have lA1 := hA1.lt; have mA1 := Nat.ne_of_gt lA1; have nA1 := Nat.ne_of_lt lA1; have hF1 : Blk v1 (w.heap.size + 1) 35 #[.int .i64 p, .int .i64 b, .int .i64 c] := Blk.call (by (repeat (first | with_reducible assumption | (with_reducible apply Blk.new_at; (first | rfl | (simp; done))) | with_reducible apply Blk.store3 | with_reducible apply Blk.store4 | (with_reducible apply Blk.farp; (first | omega | (simp <;> omega))) | with_reducible apply Blk.allocp | with_reducible apply Blk.drew | with_reducible apply Blk.drewN))) hB1; have cF1 := hF1.cell; have fF1 := hF1.frozen; have lF1 := hF1.lt; have mF1 := Nat.ne_of_gt lF1; have nF1 := Nat.ne_of_lt lF1)
        all_goals
          go_wp2
          exact bodyPost_ret (v := .tuple #[.agg #[.int .i64 p, .int .i64 b, .int .i64 c], .bool y]) (by simp [results, Try.results148, go_sem, *]) rfl ⟨by rw [hxo.out, hx.out]; rfl, (by repeat (first | with_reducible exact Below.refl _ _ | with_reducible assumption | with_reducible apply Below.drew | with_reducible apply below_drewN | (with_reducible apply below_setp; (first | omega | (simp <;> omega))) | (with_reducible apply below_allocp; (first | omega | (simp <;> omega))) | (with_reducible refine below_viap (by assumption) ?_ ?_; (first | omega | (simp <;> omega)))))⟩
      · have e7 : ((b * b - d) % (4 * p) == 0) = false := by rw [beq_eq_false_iff_ne]; exact hd
        have hs2 := Lib.hid ((pfF_no hk0 hbp hd).symm.trans hs.out)
        have hk2 : Hid (p + 1 - (b + 1) < ((k - 1 : Nat) : Int)) := Lib.hid (by have := hk.out; omega)
        clear hd hs hk
        go_wp2
        go_round
        case rel => exact ⟨k - 1, b + 1, rfl, ⟨by omega, by omega⟩, hs2, hk2⟩
        case measure => simp [intOf]; omega
    · have hx := Lib.hid (hs.out.symm.trans (pfF_end hbp))
      clear hs hk
      go_wp2
      exact bodyPost_ret (v := .tuple #[.agg #[.int .i64 0, .int .i64 0, .int .i64 0], .bool false]) (by simp [results, Try.results148, go_sem, *]) rfl ⟨by rw [hx.out]; rfl, (by repeat (first | with_reducible exact Below.refl _ _ | with_reducible assumption | with_reducible apply Below.drew | with_reducible apply below_drewN | (with_reducible apply below_setp; (first | omega | (simp <;> omega))) | (with_reducible apply below_allocp; (first | omega | (simp <;> omega))) | (with_reducible refine below_viap (by assumption) ?_ ?_; (first | omega | (simp <;> omega)))))⟩

set_option maxHeartbeats 1600000 in
theorem ipForm_any (d p : Int) (w : World) (D : Dsc d) (hp : 2 ≤ p ∧ p ≤ 10000) : Calls Try.prog 140 #[.int .i64 d, .int .i64 p] w fun e w' => e = .returned (.tuple #[.agg #[.int .i64 (pfV (pf d p)).a, .int .i64 (pfV (pf d p)).b, .int .i64 (pfV (pf d p)).c], .bool (pfO (pf d p))]) ∧ Below w.heap.size w w' := by
  obtain ⟨R, hR⟩ : ∃ R, pf d p = R := ⟨_, rfl⟩
  rw [hR]
  have HR : Hid (pfF (p.toNat + 5) d p 0 = R) := Lib.hid hR
  have hN := Lib.hid (fun b hb => pf_nums (b := b) D hp hb)
  have d1 := D.lo
  have d2 := D.hi
  obtain ⟨p1, p2⟩ := hp
  have e5 : ¬ 4 * p = 0 := by omega
  have e6 : (4 * p == 0) = false := by rw [beq_eq_false_iff_ne]; exact e5
  clear hR D
  go_enter Try.func140, Try.ntmps140
  go_wp2
  go_loop [6] (fun vb => PfSt d p R vb) (fun vb => (p + 2 - intOf vb).toNat)
  case atStart => exact ⟨p.toNat + 5, 0, rfl, ⟨by omega, by omega⟩, HR, Lib.hid (by omega)⟩
  case round =>
    clear HR
    obtain ⟨k, b, rfl, ⟨b1, b2⟩, hs, hk⟩ := hrel
    have hk0 : 0 < k := by have := hk.out; omega
    by_cases hbp : b ≤ p
    · obtain ⟨⟨n1, n2⟩, ⟨n3, n4⟩, ⟨n5, n6⟩⟩ := hN.out b ⟨b1, hbp⟩
      by_cases hd : (b * b - d) % (4 * p) = 0
      · have e7 : ((b * b - d) % (4 * p) == 0) = true := by rw [beq_iff_eq]; exact hd
        have hx := Lib.hid (hs.out.symm.trans (pfF_yes hk0 hbp hd))
        clear hd hs hk
        obtain ⟨c, hc⟩ : ∃ c, (b * b - d) / (4 * p) = c := ⟨_, rfl⟩
        rw [hc] at hx n5 n6
        have fa : Far p := ⟨by omega, by omega⟩
        have fb : Far b := ⟨by omega, by omega⟩
        have fc : Far c := ⟨by omega, by omega⟩
        have hC := Lib.hid (fun w => foContent_any p b c w fa fb fc)
        have hpb : primB ⟨p, b, c⟩ = ((Int.gcd p (Int.gcd b c) : Int) == 1) := by
          unfold primB
          rw [Bool.eq_iff_iff, decide_eq_true_eq, beq_iff_eq]
          exact ⟨fun h => by show ((Int.gcd p (Int.gcd b c) : Nat) : Int) = 1; rw [h]; rfl, fun h => by exact Int.ofNat.inj h⟩
        obtain ⟨y, hy⟩ : ∃ y, primB ⟨p, b, c⟩ = y := ⟨_, rfl⟩
        rw [hy] at hpb
        have hg := hpb.symm
        have hxo : Hid (pfO R = y) := Lib.hid (by rw [hx.out]; exact hy)
        generalize (Int.gcd p (Int.gcd b c) : Int) = g at hC hg
        clear hpb hy
        go_wp2
        go_region_with (go_at_call 218; (with_reducible refine (hC.out _).mono ?_); rintro e v1 ⟨rfl, hB1⟩; have hZ1 := hB1.size; (try simp at hZ1); (try have zl1 : w.heap.size < v1.heap.size := by omega); (try have ze1 : w.heap.size ≤ v1.heap.size := by omega); (try have zn1 : ¬ w.heap.size = v1.heap.size := by omega); (try have zm1 : ¬ v1.heap.size = w.heap.size := by omega); have hA1 : Blk v1 (w.heap.size) 35 #[.int .i64 0, .int .i64 0, .int .i64 0] := Blk.call (by (repeat (first | with_reducible assumption | (with_reducible apply Blk.new_at; (first | rfl | (simp; done))) | with_reducible apply Blk.store3 | with_reducible apply Blk.store4 | (with_reducible apply Blk.farp; (first | omega | (simp <;> omega))) | with_reducible apply Blk.allocp | with_reducible apply Blk.drew | with_reducible apply Blk.drewN))) hB1; have cA1 := hA1.cell; have fA1 := hA1.frozen; have lA1 := hA1.lt; have mA1 := Nat.ne_of_gt lA1; have nA1 := Nat.ne_of_lt lA1; have hF1 : Blk v1 (w.heap.size + 1) 35 #[.int .i64 p, .int .i64 b, .int .i64 c] := Blk.call (by (repeat (first | with_reducible assumption | (with_reducible apply Blk.new_at; (first | rfl | (simp; done))) | with_reducible apply Blk.store3 | with_reducible apply Blk.store4 | (with_reducible apply Blk.farp; (first | omega | (simp <;> omega))) | with_reducible apply Blk.allocp | with_reducible apply Blk.drew | with_reducible apply Blk.drewN))) hB1; have cF1 := hF1.cell; have fF1 := hF1.frozen; have lF1 := hF1.lt; have mF1 := Nat.ne_of_gt lF1; have nF1 := Nat.ne_of_lt lF1)
        all_goals
          go_wp2
          exact bodyPost_ret (v := .tuple #[.agg #[.int .i64 p, .int .i64 b, .int .i64 c], .bool y]) (by simp [results, Try.results140, go_sem, *]) rfl ⟨by rw [hxo.out, hx.out]; rfl, (by repeat (first | with_reducible exact Below.refl _ _ | with_reducible assumption | with_reducible apply Below.drew | with_reducible apply below_drewN | (with_reducible apply below_setp; (first | omega | (simp <;> omega))) | (with_reducible apply below_allocp; (first | omega | (simp <;> omega))) | (with_reducible refine below_viap (by assumption) ?_ ?_; (first | omega | (simp <;> omega)))))⟩
      · have e7 : ((b * b - d) % (4 * p) == 0) = false := by rw [beq_eq_false_iff_ne]; exact hd
        have hs2 := Lib.hid ((pfF_no hk0 hbp hd).symm.trans hs.out)
        have hk2 : Hid (p + 1 - (b + 1) < ((k - 1 : Nat) : Int)) := Lib.hid (by have := hk.out; omega)
        clear hd hs hk
        go_wp2
        go_round
        case rel => exact ⟨k - 1, b + 1, rfl, ⟨by omega, by omega⟩, hs2, hk2⟩
        case measure => simp [intOf]; omega
    · have hx := Lib.hid (hs.out.symm.trans (pfF_end hbp))
      clear hs hk
      go_wp2
      exact bodyPost_ret (v := .tuple #[.agg #[.int .i64 0, .int .i64 0, .int .i64 0], .bool false]) (by simp [results, Try.results140, go_sem, *]) rfl ⟨by rw [hx.out]; rfl, (by repeat (first | with_reducible exact Below.refl _ _ | with_reducible assumption | with_reducible apply Below.drew | with_reducible apply below_drewN | (with_reducible apply below_setp; (first | omega | (simp <;> omega))) | (with_reducible apply below_allocp; (first | omega | (simp <;> omega))) | (with_reducible refine below_viap (by assumption) ?_ ?_; (first | omega | (simp <;> omega)))))⟩
end Go.Proofs.Ytbecjnmifdbnjaa
