/- Plain facts: exponents, square-free numbers, squares; the product of two numbers of a triple and of their normal ones is a square. -/
import Derived.Test.YtdhennlanngjgaaJL
import Derived.Test.YtdhennlanngjgaaJB
namespace Go.Proofs.Ytdhennlanngjgaa

theorem pr_ex {n : Int} (hn : 2 ≤ n) : ∃ p, PrI p ∧ p ∣ n := by
  have key : ∀ j : Nat, (∃ p : Int, 2 ≤ p ∧ p ∣ n ∧ NoDiv p p) ∨ ∀ q : Int, 2 ≤ q → q < j → ¬ q ∣ n := by
    intro j
    induction j with
    | zero => exact .inr fun q h1 h2 => by omega
    | succ j ihj =>
      rcases ihj with h | h
      · exact .inl h
      · by_cases hd : 2 ≤ (j : Int) ∧ (j : Int) ∣ n
        · exact .inl ⟨j, hd.1, hd.2, fun q h2 h3 h4 => h q h2 h3 (Int.dvd_trans h4 hd.2)⟩
        · refine .inr fun q h2 h3 h4 => ?_
          by_cases e : q = j
          · exact hd ⟨by omega, by rw [← e]; exact h4⟩
          · exact h q h2 (by omega) h4
  rcases key (n.toNat + 1) with ⟨p, h1, h2, h3⟩ | h
  · exact ⟨p, ⟨h1, h3⟩, h2⟩
  · exact absurd (Int.dvd_refl n) (h n (by omega) (by omega))
theorem cp_pr {a b : Int} (h0 : a ≠ 0) (h : ∀ q, PrI q → q ∣ a → ¬ q ∣ b) : Cp a b := by
  apply Cp.of
  have g1 := Int.gcd_dvd_left a b
  have g2 := Int.gcd_dvd_right a b
  generalize Int.gcd a b = g at *
  by_cases hg0 : g = 0
  · subst hg0
    exact absurd (Int.zero_dvd.1 g1) h0
  by_cases hg1 : g = 1
  · exact hg1
  exfalso
  obtain ⟨p, hp, hd⟩ := pr_ex (n := (g : Int)) (by omega)
  exact h p hp (Int.dvd_trans hd g1) (Int.dvd_trans hd g2)
theorem cp_prime {p m : Int} (hp : PrI p) (h : ¬ p ∣ m) : Cp p m :=
  cp_pr (by have := hp.1; omega) fun q hq h1 h2 => h (by rw [← pr_same hq hp h1]; exact h2)
theorem expG_split {p : Int} (hp : 2 ≤ p) : ∀ (k : Nat) (n : Int), 1 ≤ n → n < k → ∃ m, n = p ^ (expG k p n).toNat * m ∧ ¬ p ∣ m
  | 0, n, h1, h2 => by omega
  | k + 1, n, h1, h2 => by
    by_cases hd : n % p = 0
    · obtain ⟨q1, q2⟩ := div_lt h1 hp hd
      obtain ⟨m, e, hm⟩ := expG_split hp k (n / p) q1 (by omega)
      refine ⟨m, ?_, hm⟩
      rw [expG_yes (by omega) hd]
      have := (expG_bd k p (n / p)).1
      rw [show (1 + expG (k + 1 - 1) p (n / p)).toNat = (expG k p (n / p)).toNat + 1 by show (1 + expG k p (n / p)).toNat = _; omega, Int.pow_succ]
      have e1 := Int.emod_add_mul_ediv n p
      rw [hd] at e1
      generalize (expG k p (n / p)).toNat = j at *
      generalize p ^ j = P at *
      have : p * (n / p) = p * (P * m) := by rw [← e]
      grind
    · refine ⟨n, ?_, fun h => hd (Int.emod_eq_zero_of_dvd h)⟩
      rw [expG_no hd]; simp
theorem expG_val {p m : Int} (hp : 2 ≤ p) (hm : ¬ p ∣ m) : ∀ (j k : Nat), j < k → expG k p (p ^ j * m) = j
  | 0, k, _ => by
    rw [Int.pow_zero, Int.one_mul]
    exact expG_no fun h => hm (Int.dvd_of_emod_eq_zero h)
  | j + 1, k, h => by
    have e1 : p ^ (j + 1) * m = p * (p ^ j * m) := by rw [Int.pow_succ]; grind
    rw [e1, expG_yes (by omega) (by simp), Int.mul_ediv_cancel_left _ (by omega), expG_val hp hm j (k - 1) (by omega)]
    omega
theorem exA_split {p x : Int} (hp : 2 ≤ p) (hx : x ≠ 0) : ∃ m, x = p ^ (exA p x).toNat * m ∧ ¬ p ∣ m := by
  obtain ⟨m, e, hm⟩ := expG_split hp ((x.natAbs : Int).toNat + 1) (x.natAbs : Int) (by omega) (by omega)
  rcases Int.natAbs_eq x with h | h
  · refine ⟨m, ?_, hm⟩
    show x = p ^ (expG ((x.natAbs : Int).toNat + 1) p (x.natAbs : Int)).toNat * m
    rw [← e]; exact h
  · refine ⟨-m, ?_, fun hd => hm ((Int.dvd_neg).1 hd)⟩
    show x = p ^ (expG ((x.natAbs : Int).toNat + 1) p (x.natAbs : Int)).toNat * -m
    rw [Int.mul_neg, ← e]; exact h
theorem exA_val {p m : Int} (hp : 2 ≤ p) (hm : ¬ p ∣ m) (j : Nat) : exA p (p ^ j * m) = j := by
  have hm0 : m ≠ 0 := fun e => hm (by rw [e]; exact Int.dvd_zero _)
  have hpj : ∀ i : Nat, (i : Int) < p ^ i := fun i => by
    induction i with
    | zero => simp
    | succ i ih =>
      rw [Int.pow_succ]
      have := Int.mul_le_mul_of_nonneg_left hp (show 0 ≤ p ^ i by omega)
      omega
  have hj := hpj j
  have e : ((p ^ j * m).natAbs : Int) = p ^ j * (m.natAbs : Int) := by
    rw [Int.natAbs_mul, Int.natCast_mul]
    congr 1
    omega
  have hl : p ^ j ≤ p ^ j * (m.natAbs : Int) := by
    have := Int.mul_le_mul_of_nonneg_left (show 1 ≤ (m.natAbs : Int) by omega) (show 0 ≤ p ^ j by omega)
    omega
  unfold exA expo
  rw [e]
  refine expG_val hp (fun hd => hm ?_) j _ (by omega)
  exact Int.dvd_natAbs.1 hd
theorem exA_mul {p x y : Int} (hp : PrI p) (hx : x ≠ 0) (hy : y ≠ 0) : exA p (x * y) = exA p x + exA p y := by
  obtain ⟨m, e1, h1⟩ := exA_split hp.1 hx
  obtain ⟨n, e2, h2⟩ := exA_split hp.1 hy
  have a1 := exA_nn p x
  have a2 := exA_nn p y
  generalize exA p x = j at *
  generalize exA p y = k at *
  have e : x * y = p ^ (j.toNat + k.toNat) * (m * n) := by rw [e1, e2, Int.pow_add]; grind
  rw [e, exA_val hp.1 (fun hd => by rcases pr_eu hp hd with h | h; exact h1 h; exact h2 h)]
  omega
theorem odE_mul {p x y : Int} (hp : PrI p) (hx : x ≠ 0) (hy : y ≠ 0) : odE p (x * y) = (odE p x + odE p y) % 2 := by
  rw [odE_exA, odE_exA, odE_exA, exA_mul hp hx hy]; omega
theorem odE_ndvd {p x : Int} (h : ¬ p ∣ x) : odE p x = 0 := by
  show expG _ p (x.natAbs : Int) % 2 = 0
  rw [expG_no (fun e => h (Int.dvd_natAbs.1 (Int.dvd_of_emod_eq_zero e)))]; rfl
theorem odE_sqf {p x : Int} (hp : PrI p) (hx : x ≠ 0) (h : Sqf x) (hd : p ∣ x) : odE p x = 1 := by
  obtain ⟨m, e, h1⟩ := exA_split hp.1 hx
  rw [odE_exA]
  have a1 := exA_nn p x
  generalize exA p x = j at *
  obtain ⟨i, rfl⟩ : ∃ i : Nat, j = i := ⟨j.toNat, by omega⟩
  rw [Int.toNat_natCast] at e
  match i, e with
  | 0, e => rw [Int.pow_zero, Int.one_mul] at e; exact absurd (e ▸ hd) h1
  | 1, e => rfl
  | k + 2, e => exact absurd ⟨p ^ k * m, by rw [e, Int.pow_succ, Int.pow_succ]; grind⟩ (h p hp.1)
theorem sq_even : ∀ (k : Nat) (n : Int), n.toNat = k → 0 < n → (∀ p, PrI p → odE p n = 0) → ∃ t, n = t * t := by
  intro k
  induction k using Nat.strongRecOn with
  | ind k ih =>
  intro n hk hn h
  by_cases h1 : n = 1
  · exact ⟨1, h1⟩
  obtain ⟨p, hp, hd⟩ := pr_ex (n := n) (by omega)
  obtain ⟨m, e, hm⟩ := exA_split (x := n) hp.1 (by omega)
  have h2 := h p hp
  rw [odE_exA] at h2
  have a1 := exA_nn p n
  generalize exA p n = j at *
  obtain ⟨i, rfl⟩ : ∃ i : Nat, j = i := ⟨j.toNat, by omega⟩
  rw [Int.toNat_natCast] at e
  match i, e, h2 with
  | 0, e, _ => rw [Int.pow_zero, Int.one_mul] at e; exact absurd (e ▸ hd) hm
  | 1, e, h2 => omega
  | i + 2, e, _ =>
    obtain ⟨l, hl⟩ : ∃ l, n = p * p * l := ⟨p ^ i * m, by rw [e, Int.pow_succ, Int.pow_succ]; grind⟩
    have hp2 := hp.1
    have hpp : 4 ≤ p * p := Int.mul_le_mul hp2 hp2 (by omega) (by omega)
    have l0 : 0 < l := by
      apply Int.not_le.1; intro h0
      have := Int.mul_le_mul_of_nonneg_left h0 (show 0 ≤ p * p by omega)
      omega
    have hlt : l < n := by
      have := Int.mul_le_mul_of_nonneg_right hpp (show 0 ≤ l by omega)
      omega
    obtain ⟨t, ht⟩ := ih l.toNat (by omega) l rfl l0 (fun q hq => by
      have h3 := h q hq
      rw [hl, odE_mul hq (by omega) (by omega), odE_mul hq (by omega) (by omega)] at h3
      have := odE_two q l
      omega)
    exact ⟨p * t, by rw [hl, ht]; grind⟩
theorem sq_split {p m : Int} (hp : PrI p) : ∀ (i : Nat) (t : Int), p ^ (2 * i) * m = t * t → ∃ s, m = s * s
  | 0, t, h => ⟨t, by rw [← h]; simp⟩
  | i + 1, t, h => by
    have hp0 : p ≠ 0 := by have := hp.1; omega
    have e1 : p ^ (2 * (i + 1)) * m = p * (p * (p ^ (2 * i) * m)) := by
      rw [show 2 * (i + 1) = 2 * i + 1 + 1 by omega, Int.pow_succ, Int.pow_succ]; grind
    have hd : p ∣ t := by
      rcases pr_eu (a := t) (b := t) hp ⟨p * (p ^ (2 * i) * m), by rw [← h, e1]⟩ with h | h <;> exact h
    obtain ⟨s, rfl⟩ := hd
    have e2 : p * (p * (p ^ (2 * i) * m)) = p * (p * (s * s)) := by rw [← e1, h]; grind
    exact sq_split hp i s (Int.eq_of_mul_eq_mul_left hp0 (Int.eq_of_mul_eq_mul_left hp0 e2))
theorem Sqf.mul_pr {s p : Int} (h : Sqf s) (hp : PrI p) (hd : ¬ p ∣ s) : Sqf (s * p) := fun q h2 h3 => by
  by_cases hq : p ∣ q
  · obtain ⟨k, rfl⟩ := hq
    obtain ⟨l, hl⟩ := h3
    have hp0 : p ≠ 0 := by have := hp.1; omega
    have e : p * s = p * (p * (k * k * l)) := by grind
    exact hd ⟨_, Int.eq_of_mul_eq_mul_left hp0 e⟩
  · have hc := cp_prime hp hq
    have hc2 : Cp (q * q) p := hc.symm.mul hc.symm
    exact h q h2 (hc2.dvd (by rw [Int.mul_comm p s]; exact h3))
theorem nfold_sqf {a b c x : Int} : ∀ (L : List Int) (s : Int), (∀ p ∈ L, PrI p) → L.Pairwise (· < ·) → Sqf s → (∀ p ∈ L, ¬ p ∣ s) → Sqf (L.foldl (nfS a b c x) s)
  | [], s, _, _, h, _ => h
  | p :: L, s, hL, hw, h, hd => by
    obtain ⟨w1, w2⟩ := List.pairwise_cons.1 hw
    have hp := hL p (by simp)
    rw [List.foldl_cons]
    refine nfold_sqf L _ (fun q hq => hL q (by simp [hq])) w2 ?_ ?_
    · unfold nfS
      split
      · exact h.mul_pr hp (hd p (by simp))
      · exact h
    · intro q hq h1
      have hqq := hL q (by simp [hq])
      have h2 := hd q (by simp [hq])
      unfold nfS at h1
      split at h1
      · rcases pr_eu hqq h1 with h3 | h3
        · exact h2 h3
        · have := pr_same hqq hp h3
          have := w1 q hq
          omega
      · exact h2 h1
theorem Sqf.unit {s : Int} (h : s = 1 ∨ s = -1) : Sqf s := fun q h2 h3 => by
  have h4 : q * q ∣ 1 := by
    rcases h with rfl | rfl
    · exact h3
    · exact (Int.dvd_neg).1 h3
  have h5 := Int.le_of_dvd (by omega) h4
  have h6 : 4 ≤ q * q := Int.mul_le_mul h2 h2 (by omega) (by omega)
  omega
theorem pr_nunit {p s : Int} (hp : PrI p) (h : s = 1 ∨ s = -1) : ¬ p ∣ s := fun h3 => by
  have h4 : p ∣ 1 := by
    rcases h with rfl | rfl
    · exact h3
    · exact (Int.dvd_neg).1 h3
  have h5 := Int.le_of_dvd (by omega) h4
  have := hp.1
  omega
theorem TrI.nsqf {a b c : Int} (h : TrI a b c) {x : Int} (hx : x ≠ 0) : Sqf (nfE a b c x) :=
  nfold_sqf _ _ (fun p hp => ((h.pr p).1 hp).1) (prims_pw h.prod.1) (Sqf.unit (sign_abs hx)) (fun p hp => pr_nunit ((h.pr p).1 hp).1 (sign_abs hx))
/-- The parity of an exponent in a number of the normal triple. -/
theorem TrI.nod {a b c : Int} (h : TrI a b c) {x q : Int} (hx : x ≠ 0) (hq : PrI q) : odE q (nfE a b c x) = if q ∣ a * b * c ∧ cdE a b c x q = true then 1 else 0 := by
  have e := h.ndvd hx hq
  rw [h.pr] at e
  split
  · rename_i h1
    exact odE_sqf hq (h.nne hx) (h.nsqf hx) (e.2 ⟨⟨hq, h1.1⟩, h1.2⟩)
  · rename_i h1
    exact odE_ndvd fun hd => h1 ⟨(e.1 hd).1.2, (e.1 hd).2⟩
theorem cd_mod {x y z : Int} (hx : x = 0 ∨ x = 1) (hy : y = 0 ∨ y = 1) (hz : z = 0 ∨ z = 1) :
    ((if x + y + z = 1 ∧ y = 1 ∨ x + y + z = 2 ∧ y = 0 then (1 : Int) else 0) + (if x + y + z = 1 ∧ z = 1 ∨ x + y + z = 2 ∧ z = 0 then 1 else 0) + (y + z)) % 2 = 0 := by
  rcases hx with rfl | rfl <;> rcases hy with rfl | rfl <;> rcases hz with rfl | rfl <;> simp
theorem mul_sign_pos {x y : Int} (hx : x ≠ 0) (h : x.sign = y.sign) : 0 < x * y := by
  rcases Int.lt_trichotomy x 0 with h1 | h1 | h1
  · rw [Int.sign_eq_neg_one_of_neg h1] at h
    have : y < 0 := Int.sign_eq_neg_one_iff_neg.1 h.symm
    exact Int.mul_pos_of_neg_of_neg h1 this
  · exact absurd h1 hx
  · rw [Int.sign_eq_one_of_pos h1] at h
    have : 0 < y := Int.sign_eq_one_iff_pos.1 h.symm
    exact Int.mul_pos h1 this
/-- Two numbers of a triple, times the two of the normal triple, are a square: here for any two, with the third named. -/
theorem TrI.nsq {a b c : Int} (h : TrI a b c) {x y z : Int} (_ : x ≠ 0) (hy : y ≠ 0) (hz : z ≠ 0)
    (hm : ∀ q, mnE a b c q = odE q x + odE q y + odE q z) (hd : ∀ q, PrI q → ¬ q ∣ a * b * c → ¬ q ∣ y ∧ ¬ q ∣ z) : ∃ t, nfE a b c y * nfE a b c z * (y * z) = t * t := by
  have ny := h.nne hy
  have nz := h.nne hz
  refine sq_even _ _ rfl ?_ fun q hq => ?_
  · have h1 := mul_sign_pos ny h.nsign
    have h2 := mul_sign_pos nz h.nsign
    have := Int.mul_pos h1 h2
    have e : nfE a b c y * nfE a b c z * (y * z) = nfE a b c y * y * (nfE a b c z * z) := by grind
    rw [e]; exact this
  · rw [odE_mul hq (Int.mul_ne_zero ny nz) (Int.mul_ne_zero hy hz), odE_mul hq ny nz, odE_mul hq hy hz, h.nod hy hq, h.nod hz hq]
    have oy := odE_two q y
    have oz := odE_two q z
    by_cases hd1 : q ∣ a * b * c
    · have := cd_mod (odE_two q x) oy oz
      unfold cdE
      rw [hm q]
      simp only [hd1, true_and, decide_eq_true_eq]
      omega
    · obtain ⟨h1, h2⟩ := hd q hq hd1
      rw [if_neg (fun h => hd1 h.1), if_neg (fun h => hd1 h.1), odE_ndvd h1, odE_ndvd h2]; rfl
theorem TrI.nsq3 {a b c : Int} (h : TrI a b c) : (∃ t, nfE a b c b * nfE a b c c * (b * c) = t * t) ∧ (∃ t, nfE a b c a * nfE a b c c * (a * c) = t * t) ∧ (∃ t, nfE a b c a * nfE a b c b * (a * b) = t * t) := by
  have hd : ∀ q, PrI q → ¬ q ∣ a * b * c → ¬ q ∣ a ∧ ¬ q ∣ b ∧ ¬ q ∣ c := fun q hq hn =>
    ⟨fun h1 => hn (Int.dvd_mul_of_dvd_left (Int.dvd_mul_of_dvd_left h1)), fun h1 => hn (Int.dvd_mul_of_dvd_left (Int.dvd_mul_of_dvd_right h1)), fun h1 => hn (Int.dvd_mul_of_dvd_right h1)⟩
  refine ⟨h.nsq h.a0 h.b0 h.c0 (fun q => rfl) (fun q hq hn => (hd q hq hn).2), h.nsq h.b0 h.a0 h.c0 (fun q => ?_) (fun q hq hn => ⟨(hd q hq hn).1, (hd q hq hn).2.2⟩), h.nsq h.c0 h.a0 h.b0 (fun q => ?_) (fun q hq hn => ⟨(hd q hq hn).1, (hd q hq hn).2.1⟩)⟩
  · unfold mnE; omega
  · unfold mnE; omega
end Go.Proofs.Ytdhennlanngjgaa
