/- Ambiguous forms and their opposites (plain); contracts: the exponent of a prime. -/
import Derived.Test.YtdhennlanngjgaaN5
import Derived.Test.YtdhennlanngjgaaK9
namespace Go.Proofs.Ytdhennlanngjgaa
open Go.RowKit

theorem redN_red {f : Fm} (h : isRed f.a f.b f.c = true) : ∀ n, redN n f = f
  | 0 => rfl
  | n + 1 => by unfold redN; rw [if_pos h]
theorem redN_step {f : Fm} (n : Nat) (h : isRed f.a f.b f.c = false) (h2 : isRed (stepF f).a (stepF f).b (stepF f).c = true) : redN (n + 1) f = stepF f := by
  unfold redN
  rw [h, if_neg (by simp)]
  exact redN_red h2 n
theorem amb_opp {f : Fm} (hr : isRed f.a f.b f.c = true) (ha : 0 < f.a) (h : ambB f = true) : red (oppF f) = f := by
  have hr' := (isRed_iff _ _ _).1 hr
  obtain ⟨a, b, c⟩ := f
  simp only [ambB, isAmb, Bool.or_eq_true, decide_eq_true_eq] at h hr' ha hr
  by_cases hb : b = 0
  · subst hb
    exact red_of hr
  · by_cases hab : a = b
    · subst hab
      have e1 : isNorm a (-a) = false := by rw [isNorm_false]; omega
      have e2 : tr a (-a) = 1 := by unfold tr; rw [show a - -a = 2 * a by omega]; exact Int.ediv_self (by omega)
      have e3 : stepF ⟨a, -a, c⟩ = ⟨a, a, c⟩ := by
        unfold stepF
        simp only [e1, e2]
        simp
        refine ⟨by omega, by omega⟩
      unfold red oppF
      rw [show 2 * a.toNat + 2 = (2 * a.toNat + 1) + 1 from rfl]
      refine (redN_step _ ?_ ?_).trans e3
      · simp [isRed, e1]
      · rw [e3]; exact hr
    · obtain rfl : a = c := by omega
      have hb0 : 0 < b := by omega
      have e1 : isNorm a (-b) = true := by rw [isNorm_iff]; omega
      have e3 : stepF ⟨a, -b, a⟩ = ⟨a, b, a⟩ := by
        unfold stepF
        simp only [e1]
        simp
      unfold red oppF
      rw [show 2 * a.toNat + 2 = (2 * a.toNat + 1) + 1 from rfl]
      refine (redN_step _ ?_ ?_).trans e3
      · simp [isRed, e1]; omega
      · rw [e3]; exact hr
theorem CF.opp {d : Int} {f : Fm} (D : Dsc d) (hf : f ∈ clsL d) : CF d (oppF f) (red (oppF f)) := by
  have h := CF.of_mem D hf
  have e : (oppF f).b * (oppF f).b = f.b * f.b := by simp only [oppF]; rw [Int.neg_mul_neg]
  exact ⟨D, opp_def h.df, rfl, D.opp_mem hf h.df, (opp_disc f).trans h.dc, by rw [e]; exact h.b1, h.b2, h.b3⟩
theorem fmEq_opp {d : Int} {f : Fm} (D : Dsc d) (hf : f ∈ clsL d) : fmEq f (red (oppF f)) = ambB f := by
  obtain ⟨⟨f1, _, _, f4, _⟩, _⟩ := mem_clsL D.lo hf
  cases hb : ambB f with
  | true => rw [amb_opp f4 f1 hb]; exact (fmEq_iff _ _).2 rfl
  | false =>
    rw [fmEq_no]
    intro he
    have h := CF.of_mem D hf
    have e1 := D.inv hf h.df
    rw [← he] at e1
    have := D.amb hf h.df e1
    unfold ambB isAmb at hb
    simp at hb
    omega

/-- How often p divides n. -/
def expG : Nat → Int → Int → Int
  | 0, _, _ => 0
  | k + 1, p, n => if n % p = 0 then 1 + expG k p (n / p) else 0
def expo (p n : Int) : Int := expG (n.toNat + 1) p n
theorem expG_no {k : Nat} {p n : Int} (h : ¬ n % p = 0) : expG k p n = 0 := by
  cases k with
  | zero => rfl
  | succ k => unfold expG; rw [if_neg h]
theorem expG_yes {k : Nat} {p n : Int} (hk : 0 < k) (h : n % p = 0) : expG k p n = 1 + expG (k - 1) p (n / p) := by
  obtain ⟨j, rfl⟩ : ∃ j, k = j + 1 := ⟨k - 1, by omega⟩
  rw [expG, if_pos h]; rfl
theorem expG_bd : ∀ (k : Nat) (p n : Int), 0 ≤ expG k p n ∧ expG k p n ≤ k
  | 0, _, _ => by simp [expG]
  | k + 1, p, n => by
    have := expG_bd k p (n / p)
    unfold expG
    split <;> omega
def ExpSt (R p n0 : Int) (vn vc : Value) : Prop := ∃ (k : Nat) (n c : Int), vn = .int .i64 n ∧ vc = .int .i64 c ∧ (1 ≤ n ∧ n ≤ n0) ∧ 0 ≤ c ∧ c + n ≤ n0 ∧ Hid (n < k) ∧ Hid (c + expG k p n = R)

set_option maxHeartbeats 800000 in
theorem exponent_any (n0 p : Int) (w : World) (hn : 1 ≤ n0) (hn2 : n0 ≤ 1000000000) (hp : 2 ≤ p) (hp2 : p ≤ 1000000000) :
    Calls Try.prog 43 #[.int .i64 n0, .int .i64 p] w fun e w' => e = .returned (.int .i64 (expo p n0)) ∧ w = w' := by
  obtain ⟨R, hR⟩ : ∃ R, expo p n0 = R := ⟨_, rfl⟩
  have hst : Hid (0 + expG (n0.toNat + 1) p n0 = R) := Lib.hid (by rw [Int.zero_add]; exact hR)
  rw [hR]
  have e5 : ¬ p = 0 := by omega
  have e6 : (p == 0) = false := by rw [beq_eq_false_iff_ne]; exact e5
  clear hR
  go_enter Try.func43, Try.ntmps43
  go_wp2
  go_loop [0, 5] (fun vn vc => ExpSt R p n0 vn vc) (fun vn _ => (intOf vn).toNat)
  case atStart => exact ⟨_, n0, 0, rfl, rfl, ⟨hn, Int.le_refl _⟩, by omega, by omega, Lib.hid (by omega), hst⟩
  case round =>
    clear hst
    obtain ⟨k, n, c, rfl, rfl, ⟨n1, n2⟩, c0, cn, hk, hs⟩ := hrel
    by_cases hd : n % p = 0
    · have e7 : (n % p == 0) = true := by rw [beq_iff_eq]; exact hd
      obtain ⟨q1, q2⟩ := div_lt n1 hp hd
      have hk0 : 0 < k := by have := hk.out; omega
      have hs2 : Hid (c + 1 + expG (k - 1) p (n / p) = R) := Lib.hid (by have := hs.out; rw [expG_yes hk0 hd] at this; omega)
      have hk2 : Hid (n / p < ((k - 1 : Nat) : Int)) := Lib.hid (by have := hk.out; omega)
      clear hd hs hk hk0
      go_wp2
      go_round
      case rel => exact ⟨k - 1, n / p, c + 1, rfl, rfl, ⟨q1, by omega⟩, by omega, by omega, hk2, hs2⟩
      case measure => simp [intOf]; omega
    · have e7 : (n % p == 0) = false := by rw [beq_eq_false_iff_ne]; exact hd
      have hx := Lib.hid (show c = R by have := hs.out; rw [expG_no hd] at this; omega)
      clear hd hs hk
      go_wp2
      go_ret
      exact ⟨ret_int hx.out, rfl⟩

set_option maxHeartbeats 800000 in
theorem nuExponent_any (n0 p : Int) (w : World) (hn : 1 ≤ n0) (hn2 : n0 ≤ 1000000000) (hp : 2 ≤ p) (hp2 : p ≤ 1000000000) :
    Calls Try.prog 48 #[.int .i64 n0, .int .i64 p] w fun e w' => e = .returned (.int .i64 (expo p n0)) ∧ w = w' := by
  obtain ⟨R, hR⟩ : ∃ R, expo p n0 = R := ⟨_, rfl⟩
  have hst : Hid (0 + expG (n0.toNat + 1) p n0 = R) := Lib.hid (by rw [Int.zero_add]; exact hR)
  rw [hR]
  have e5 : ¬ p = 0 := by omega
  have e6 : (p == 0) = false := by rw [beq_eq_false_iff_ne]; exact e5
  clear hR
  go_enter Try.func48, Try.ntmps48
  go_wp2
  go_loop [0, 5] (fun vn vc => ExpSt R p n0 vn vc) (fun vn _ => (intOf vn).toNat)
  case atStart => exact ⟨_, n0, 0, rfl, rfl, ⟨hn, Int.le_refl _⟩, by omega, by omega, Lib.hid (by omega), hst⟩
  case round =>
    clear hst
    obtain ⟨k, n, c, rfl, rfl, ⟨n1, n2⟩, c0, cn, hk, hs⟩ := hrel
    by_cases hd : n % p = 0
    · have e7 : (n % p == 0) = true := by rw [beq_iff_eq]; exact hd
      obtain ⟨q1, q2⟩ := div_lt n1 hp hd
      have hk0 : 0 < k := by have := hk.out; omega
      have hs2 : Hid (c + 1 + expG (k - 1) p (n / p) = R) := Lib.hid (by have := hs.out; rw [expG_yes hk0 hd] at this; omega)
      have hk2 : Hid (n / p < ((k - 1 : Nat) : Int)) := Lib.hid (by have := hk.out; omega)
      clear hd hs hk hk0
      go_wp2
      go_round
      case rel => exact ⟨k - 1, n / p, c + 1, rfl, rfl, ⟨q1, by omega⟩, by omega, by omega, hk2, hs2⟩
      case measure => simp [intOf]; omega
    · have e7 : (n % p == 0) = false := by rw [beq_eq_false_iff_ne]; exact hd
      have hx := Lib.hid (show c = R by have := hs.out; rw [expG_no hd] at this; omega)
      clear hd hs hk
      go_wp2
      go_ret
      exact ⟨ret_int hx.out, rfl⟩
end Go.Proofs.Ytdhennlanngjgaa
