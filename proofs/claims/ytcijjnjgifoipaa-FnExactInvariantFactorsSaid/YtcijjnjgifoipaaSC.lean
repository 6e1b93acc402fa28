/- Plain facts: the invariant factors, as both sides make them; one generator. -/
import Derived.Test.YtcijjnjgifoipaaSB
import Derived.Test.YtcijjnjgifoipaaR1
namespace Go.Proofs.Ytcijjnjgifoipaa
open Go.RowKit

/-- The first k places times p; a place that is lacking counts as 1. -/
def bumpL : List Int → Nat → Int → List Int
  | out, 0, _ => out
  | [], k + 1, p => p :: bumpL [] k p
  | x :: out, k + 1, p => x * p :: bumpL out k p
theorem bumpL_zero (out : List Int) (p : Int) : bumpL out 0 p = out := by cases out <;> rfl
theorem bumpL_len : ∀ (out : List Int) (k : Nat) (p : Int), (bumpL out k p).length = max out.length k
  | out, 0, p => by rw [bumpL_zero]; simp
  | [], k + 1, p => by simp [bumpL, bumpL_len [] k p]
  | x :: out, k + 1, p => by
    simp only [bumpL, List.length_cons, bumpL_len out k p]
    omega
/-- How many parts of the p-part have a size that p^(i+1) divides. -/
noncomputable def rkP (d : Int) (p i : Nat) : Nat := (expo p ((cntO d (p ^ (i + 1)) : Int) / (cntO d (p ^ i) : Int))).toNat
noncomputable def facP (d : Int) (p : Nat) (out : List Int) : Nat → List Int
  | 0 => out
  | e + 1 => bumpL (facP d p out e) (rkP d p e) p
theorem expo_one {p : Int} (hp : 2 ≤ p) : expo p 1 = 0 := by
  unfold expo
  exact expG_no (by rw [Int.emod_eq_of_lt (by omega) (by omega)]; omega)
theorem cnt_one {d : Int} (D : Dsc d) : cntO d 1 = 1 := cnt_part D (a := 1) (b := (clsL d).length) (by omega) (List.length_pos_of_mem D.one) (by omega) (Nat.coprime_one_left _)
theorem rk_stop {d : Int} (D : Dsc d) {p e r i j : Nat} (hp : Ab.PrN p) (hr : 0 < r) (hm : (clsL d).length = p ^ e * r) (hc : Nat.Coprime p r) (hi : cntO d (p ^ i) = p ^ e) (hij : i ≤ j) (hje : j < e) : rkP d p j = 0 := by
  have hpp := fun n => Nat.pow_pos (n := n) (show 0 < p by have := hp.1; omega)
  have he : cntO d (p ^ e) = p ^ e := cnt_part D (hpp e) hr hm (Nat.Coprime.pow_left _ hc)
  have hval : ∀ k, i ≤ k → k ≤ e → cntO d (p ^ k) = p ^ e := fun k h1 h2 => by
    have a := cnt_dvd D (Nat.pow_dvd_pow p h1)
    have b := cnt_dvd D (Nat.pow_dvd_pow p h2)
    rw [hi] at a
    rw [he] at b
    exact Nat.dvd_antisymm b a
  unfold rkP
  rw [hval j hij (by omega), hval (j + 1) (by omega) (by omega), Int.ediv_self (by have := hpp e; omega), expo_one (by have := hp.1; omega)]
  rfl
theorem facP_stop {d : Int} (D : Dsc d) {p e r i : Nat} (out : List Int) (hp : Ab.PrN p) (hr : 0 < r) (hm : (clsL d).length = p ^ e * r) (hc : Nat.Coprime p r) (hi : cntO d (p ^ i) = p ^ e) : ∀ j, i + j ≤ e → facP d p out (i + j) = facP d p out i
  | 0, _ => rfl
  | j + 1, h => by
    rw [← Nat.add_assoc, facP, rk_stop D hp hr hm hc hi (by omega) (by omega), bumpL_zero, facP_stop D out hp hr hm hc hi j (by omega)]
/-- As long as fewer are counted than the p-part has, the next power of p divides the size. -/
theorem cnt_lt {d : Int} (D : Dsc d) {p e r i : Nat} (hp : Ab.PrN p) (hr : 0 < r) (hm : (clsL d).length = p ^ e * r) (hc : Nat.Coprime p r) (hi : cntO d (p ^ i) < p ^ e) : i < e := by
  have hpp := fun n => Nat.pow_pos (n := n) (show 0 < p by have := hp.1; omega)
  have he : cntO d (p ^ e) = p ^ e := cnt_part D (hpp e) hr hm (Nat.Coprime.pow_left _ hc)
  rcases Nat.lt_or_ge i e with h | h
  · exact h
  · have := Nat.le_of_dvd (cnt_pos D _) (cnt_dvd D (Nat.pow_dvd_pow p h))
    omega
theorem cnt_le {d : Int} (D : Dsc d) {p e r i : Nat} (hp : Ab.PrN p) (hr : 0 < r) (hm : (clsL d).length = p ^ e * r) (hc : Nat.Coprime p r) (hi : i ≤ e) : cntO d (p ^ i) ≤ p ^ e := by
  have hpp := fun n => Nat.pow_pos (n := n) (show 0 < p by have := hp.1; omega)
  have he : cntO d (p ^ e) = p ^ e := cnt_part D (hpp e) hr hm (Nat.Coprime.pow_left _ hc)
  have := Nat.le_of_dvd (cnt_pos D _) (cnt_dvd D (Nat.pow_dvd_pow p hi))
  omega
theorem facP_len {d : Int} (p : Nat) (out : List Int) : ∀ e n, ((facP d p out e).length ≤ n ↔ out.length ≤ n ∧ ∀ i, i < e → rkP d p i ≤ n)
  | 0, n => by simp [facP]
  | e + 1, n => by
    rw [facP, bumpL_len, Nat.max_le, facP_len p out e n]
    constructor
    · rintro ⟨⟨h1, h2⟩, h3⟩
      exact ⟨h1, fun i hi => by
        by_cases e1 : i = e
        · subst e1; exact h3
        · exact h2 i (by omega)⟩
    · rintro ⟨h1, h2⟩
      exact ⟨⟨h1, fun i hi => h2 i (by omega)⟩, h2 e (by omega)⟩
/-- The exponent of p in a power of p. -/
theorem expG_pow {p : Nat} (hp : 2 ≤ p) : ∀ (j k : Nat), j < k → expG k p ((p ^ j : Nat) : Int) = j
  | 0, k, _ => by
    rw [Nat.pow_zero]
    exact expG_no (by rw [show ((1 : Nat) : Int) = 1 from rfl, Int.emod_eq_of_lt (by omega) (by omega)]; omega)
  | j + 1, k, h => by
    have e1 : (((p ^ (j + 1) : Nat) : Int)) = (p ^ j : Nat) * (p : Int) := by rw [Nat.pow_succ]; simp
    rw [expG_yes (by omega) (by rw [e1]; simp), e1, Int.mul_ediv_cancel _ (by omega), expG_pow hp j (k - 1) (by omega)]
    omega
theorem expo_pow {p : Nat} (hp : 2 ≤ p) (j : Nat) : expo p ((p ^ j : Nat) : Int) = j := by
  unfold expo
  refine expG_pow hp j _ ?_
  have : j < p ^ j := Nat.lt_pow_self (by omega)
  omega
/-- No more than one part at any power: then few elements are killed. -/
theorem cnt_few {d : Int} (D : Dsc d) {p : Nat} (hp : Ab.PrN p) : ∀ e, (∀ i, i < e → rkP d p i ≤ 1) → cntO d (p ^ e) ≤ p ^ e
  | 0, _ => by rw [Nat.pow_zero, cnt_one D]; omega
  | e + 1, h => by
    have ih := cnt_few D hp e (fun i hi => h i (by omega))
    have h1 := h e (by omega)
    obtain ⟨a, ha⟩ := cnt_pow D hp e
    obtain ⟨b, hb⟩ := cnt_pow D hp (e + 1)
    have hd := cnt_dvd D (Nat.pow_dvd_pow p (show e ≤ e + 1 by omega))
    have hp2 := hp.1
    have hle : a ≤ b := by
      rw [ha, hb] at hd
      exact (Nat.pow_dvd_pow_iff_le_right (by omega)).1 hd
    have hq : ((cntO d (p ^ (e + 1)) : Int) / (cntO d (p ^ e) : Int)) = ((p ^ (b - a) : Nat) : Int) := by
      rw [ha, hb, ← Int.natCast_ediv, Nat.pow_div hle (by omega)]
    unfold rkP at h1
    rw [hq, expo_pow hp2] at h1
    rw [hb, show b = a + (b - a) by omega, Nat.pow_add, ← ha, Nat.pow_succ]
    refine Nat.mul_le_mul ih ?_
    have h3 : b - a ≤ 1 := by simpa using h1
    calc p ^ (b - a) ≤ p ^ 1 := Nat.pow_le_pow_right (by omega) h3
      _ = p := Nat.pow_one p
/-- One class has all classes as powers just if no power of a prime has two parts. -/
theorem cyc_iff {d : Int} (D : Dsc d) : (∀ p e r, Ab.PrN p → (clsL d).length = p ^ e * r → Nat.Coprime p r → ∀ i, i < e → rkP d p i ≤ 1) ↔ ∃ f ∈ clsL d, ordF d f = (clsL d).length := by
  have hm0 : 0 < (clsL d).length := List.length_pos_of_mem D.one
  constructor
  · intro h
    refine cyc_of D fun p e r hp hm hc => ?_
    have hpp := fun n => Nat.pow_pos (n := n) (show 0 < p by have := hp.1; omega)
    have hr : 0 < r := Nat.pos_of_ne_zero (fun h0 => by subst h0; rw [Nat.mul_zero] at hm; omega)
    have h1 := cnt_few D hp e (fun i hi => h p (e + 1) r hp hm hc i (by omega))
    have h2 : cntO d (p ^ (e + 1)) = p ^ (e + 1) := cnt_part D (hpp _) hr hm (Nat.Coprime.pow_left _ hc)
    rw [h2]
    refine Nat.lt_of_le_of_lt h1 ?_
    rw [Nat.pow_succ]
    have := Nat.mul_le_mul_left (p ^ e) hp.1
    have := hpp e
    omega
  · rintro ⟨f, hf, ho⟩ p e r hp hm hc i hi
    have hp2 := hp.1
    have hpp := fun n => Nat.pow_pos (n := n) (show 0 < p by omega)
    have hval : ∀ k, k ≤ e → cntO d (p ^ k) = p ^ k := fun k hk => cnt_cyc D hf ho (hpp k) (c := p ^ (e - k) * r) (by
      rw [hm, ← Nat.mul_assoc, ← Nat.pow_add]
      congr 2
      omega)
    unfold rkP
    rw [hval i (by omega), hval (i + 1) (by omega), ← Int.natCast_ediv, Nat.pow_div (by omega) (by omega), expo_pow hp2]
    simp
end Go.Proofs.Ytcijjnjgifoipaa
