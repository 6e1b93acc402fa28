/- Plain facts: the factors are the primes that divide. -/
import Derived.Test.YtcijjnjgifoipaaSA
import Derived.Test.YtcijjnjgifoipaaN7
namespace Go.Proofs.Ytcijjnjgifoipaa
open Go.RowKit

/-- A prime, as the list of factors has it. -/
def PrI (y : Int) : Prop := 2 ≤ y ∧ NoDiv y y
theorem fac_last {p n : Int} (hp : 2 ≤ p) (hd : NoDiv p n) (h : ¬ p * p ≤ n) {q : Int} (h2 : 2 ≤ q) (hq : q ∣ n) (hn : 1 ≤ n) : q = n := by
  obtain ⟨c, rfl⟩ := hq
  have hqp : p ≤ q := Int.not_lt.1 fun hl => hd q h2 hl (Int.dvd_mul_right _ _)
  have hc0 : 0 < c := by
    apply Int.not_le.1; intro hl
    have : q * c ≤ q * 0 := Int.mul_le_mul_of_nonneg_left hl (by omega)
    omega
  by_cases hc : c = 1
  · subst hc; omega
  · exfalso
    have hcp : p ≤ c := Int.not_lt.1 fun hl => hd c (by omega) hl (Int.dvd_mul_left _ _)
    have h3 : p * p ≤ q * c := Int.mul_le_mul hqp hcp (by omega) (by omega)
    omega
theorem fac_pr : ∀ (k : Nat) (b : Bool) (p n : Int), 2 ≤ p → 1 ≤ n → NoDiv p n → ∀ y ∈ fac k b p n, PrI y ∧ y ∣ n
  | 0, _, _, _, _, _, _ => by simp [fac]
  | k + 1, false, p, n, hp, hn, hd => by
    unfold fac
    split
    · exact fac_pr k true p n hp hn hd
    · rename_i h
      split
      · rename_i h1
        intro y hy
        simp at hy
        subst hy
        exact ⟨⟨by omega, fun q h2 h3 h4 => by have := fac_last hp hd h h2 h4 hn; omega⟩, Int.dvd_refl _⟩
      · simp
  | k + 1, true, p, n, hp, hn, hd => by
    unfold fac
    split
    · rename_i h
      have hpn := Int.dvd_of_emod_eq_zero h
      have e := Int.emod_add_mul_ediv n p
      rw [h] at e
      have hq : 1 ≤ n / p := by
        apply Int.not_lt.1; intro hl
        have : p * (n / p) ≤ p * 0 := Int.mul_le_mul_of_nonneg_left (by omega) (by omega)
        omega
      intro y hy
      simp at hy
      rcases hy with rfl | hy
      · exact ⟨⟨hp, fun q h2 h3 h4 => hd q h2 h3 (Int.dvd_trans h4 hpn)⟩, hpn⟩
      · obtain ⟨a, c⟩ := fac_pr k true p (n / p) hp hq (hd.div h) y hy
        exact ⟨a, by rw [← e, Int.zero_add]; exact Int.dvd_trans c (Int.dvd_mul_left _ _)⟩
    · rename_i h
      exact fac_pr k false (p + 1) n (by omega) hn (hd.next h)
theorem prI_nat {y : Int} (h : PrI y) : Ab.PrN y.toNat := by
  obtain ⟨h1, h2⟩ := h
  refine ⟨by omega, fun q hq => ?_⟩
  have hle := Nat.le_of_dvd (by omega) hq
  have hq0 : q ≠ 0 := fun e => by subst e; have := Nat.eq_zero_of_zero_dvd hq; omega
  refine Classical.byContradiction fun hno => ?_
  have h3 : q ≠ 1 := fun e => hno (.inl e)
  have h4 : q ≠ y.toNat := fun e => hno (.inr e)
  refine h2 q (by omega) (by omega) ?_
  have : (q : Int) ∣ (y.toNat : Int) := Int.natCast_dvd_natCast.2 hq
  rwa [Int.toNat_of_nonneg (by omega)] at this
theorem fac_all (N : Int) (hN : N ≤ 20000000) : ∀ (k : Nat) (b : Bool) (p n : Int), 2 ≤ p → 1 ≤ n → n ≤ N → NoDiv p n → (b = true → p * p ≤ N) → (b = false → (p - 1) * (p - 1) ≤ N) → 4 * n - 2 * p + 15000 - (if b then 1 else 0) < k → ∀ q, PrI q → q ∣ n → q ∈ fac k b p n
  | 0, b, p, n, hp, hn, hnN, hd, h1, h2, hk => by
    intro q _ _
    exfalso
    have h5 : p ≤ 5000 := by
      apply Int.not_lt.1; intro hl
      cases b with
      | true =>
        have := h1 rfl
        have : 5000 * 5000 ≤ p * p := Int.mul_le_mul (by omega) (by omega) (by omega) (by omega)
        omega
      | false =>
        have := h2 rfl
        have : 5000 * 5000 ≤ (p - 1) * (p - 1) := Int.mul_le_mul (by omega) (by omega) (by omega) (by omega)
        omega
    cases b <;> simp at hk <;> omega
  | k + 1, false, p, n, hp, hn, hnN, hd, h1, h2, hk => by
    intro q hq hqn
    unfold fac
    split
    · rename_i h
      exact fac_all N hN k true p n hp hn hnN hd (fun _ => by omega) (by simp) (by simp at hk ⊢; omega) q hq hqn
    · rename_i h
      have e := fac_last hp hd h hq.1 hqn hn
      have h9 := hq.1
      rw [if_pos (by omega)]
      simp [e]
  | k + 1, true, p, n, hp, hn, hnN, hd, h1, h2, hk => by
    intro q hq hqn
    unfold fac
    split
    · rename_i h
      have hpn := Int.dvd_of_emod_eq_zero h
      have e := Int.emod_add_mul_ediv n p
      rw [h, Int.zero_add] at e
      have hq1 : 1 ≤ n / p := by
        apply Int.not_lt.1; intro hl
        have : p * (n / p) ≤ p * 0 := Int.mul_le_mul_of_nonneg_left (by omega) (by omega)
        omega
      have hlt : n / p < n := by
        have : 2 * (n / p) ≤ p * (n / p) := Int.mul_le_mul_of_nonneg_right hp (by omega)
        omega
      by_cases hqp : q = p
      · simp [hqp]
      · have hg : Int.gcd q p = 1 := by
          have hgp : ((Int.gcd q p : Nat) : Int) ∣ p := Int.gcd_dvd_right ..
          have hgq : ((Int.gcd q p : Nat) : Int) ∣ q := Int.gcd_dvd_left ..
          have hpos : 0 < Int.gcd q p := Nat.pos_of_ne_zero (fun h0 => by rw [h0] at hgp; have := Int.zero_dvd.1 hgp; omega)
          refine Classical.byContradiction fun hno => ?_
          have hle := Int.le_of_dvd (by omega) hgp
          have hle2 := Int.le_of_dvd (by have := hq.1; omega) hgq
          rcases Int.lt_or_eq_of_le hle2 with hl | he
          · exact hq.2 _ (by omega) hl hgq
          · rw [he] at hgp hle
            exact hd q hq.1 (by omega) (Int.dvd_trans hgp hpn)
        have hqd : q ∣ n / p := by
          have h6 : q.natAbs ∣ p.natAbs * (n / p).natAbs := by rw [← Int.natAbs_mul, e]; exact Int.natAbs_dvd_natAbs.2 hqn
          exact Int.natAbs_dvd_natAbs.1 ((show Nat.Coprime q.natAbs p.natAbs from hg).dvd_of_dvd_mul_left h6)
        exact List.mem_cons_of_mem _ (fac_all N hN k true p (n / p) hp hq1 (by omega) (hd.div h) h1 h2 (by simp at hk ⊢; omega) q hq hqd)
    · rename_i h
      exact fac_all N hN k false (p + 1) n (by omega) hn hnN (hd.next h) (by simp) (fun _ => by have := h1 rfl; rwa [Int.add_sub_cancel]) (by simp at hk ⊢; omega) q hq hqn
theorem mem_addD {P : List Int} {f x : Int} : x ∈ addD P f ↔ x ∈ P ∨ x = f := by
  unfold addD
  split
  · rename_i h
    have := List.mem_of_getLast? h
    constructor
    · exact .inl
    · rintro (h | rfl)
      · exact h
      · exact this
  · simp
theorem mem_foldD : ∀ (F P : List Int) (x : Int), x ∈ F.foldl addD P ↔ x ∈ P ∨ x ∈ F
  | [], P, x => by simp
  | f :: F, P, x => by
    rw [List.foldl_cons, mem_foldD F, mem_addD, List.mem_cons]
    constructor
    · rintro ((h | h) | h)
      · exact .inl h
      · exact .inr (.inl h)
      · exact .inr (.inr h)
    · rintro (h | h | h)
      · exact .inl (.inl h)
      · exact .inl (.inr h)
      · exact .inr h
/-- The different prime factors are just the primes that divide. -/
theorem mem_prims {n x : Int} (hn : 1 ≤ n) (h2 : n ≤ 200000) : x ∈ prims n ↔ PrI x ∧ x ∣ n := by
  have hd : NoDiv 2 n := fun q h1 h2 _ => by omega
  unfold prims
  rw [mem_foldD]
  constructor
  · rintro (h | h)
    · simp at h
    · exact fac_pr _ false 2 n (by omega) hn hd x h
  · rintro ⟨h1, h3⟩
    exact .inr (fac_all 200000 (by omega) _ false 2 n (by omega) hn h2 hd (by simp) (by simp) (by simp; omega) x h1 h3)
end Go.Proofs.Ytcijjnjgifoipaa
