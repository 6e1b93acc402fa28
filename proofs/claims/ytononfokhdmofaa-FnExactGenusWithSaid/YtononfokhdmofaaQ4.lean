/- Plain facts: the genus values of a class are 1 or -1. -/
import Derived.Test.YtononfokhdmofaaQ1
namespace Go.Proofs.Ytononfokhdmofaa
open Go.RowKit

theorem fac_dvd : ∀ (k : Nat) (b : Bool) (p n : Int), ∀ x ∈ fac k b p n, x ∣ n
  | 0, _, _, _ => by simp [fac]
  | k + 1, false, p, n => by
    unfold fac
    split
    · exact fac_dvd k true p n
    · split
      · intro x hx; simp at hx; subst hx; exact Int.dvd_refl _
      · simp
  | k + 1, true, p, n => by
    unfold fac
    split
    · rename_i h
      have e := Int.emod_add_mul_ediv n p
      rw [h, Int.zero_add] at e
      intro x hx
      rcases List.mem_cons.1 hx with rfl | hx
      · exact ⟨_, e.symm⟩
      · rw [← e]; exact Int.dvd_mul_of_dvd_right (fac_dvd k true p (n / p) x hx)
    · exact fac_dvd k false (p + 1) n
theorem prims_dvd {n x : Int} (hx : x ∈ prims n) : x ∣ n := by
  rcases fold_sub (facL n) [] x hx with h | h
  · simp at h
  · exact fac_dvd _ _ _ _ x h
theorem gcd_one_of_dvd {a b m n : Int} (ha : a ∣ m) (hb : b ∣ n) (h : Int.gcd m n = 1) : Int.gcd a b = 1 := by
  have h1 : Int.gcd a b ∣ Int.gcd m n := Int.dvd_gcd (Int.dvd_trans (Int.gcd_dvd_left ..) ha) (Int.dvd_trans (Int.gcd_dvd_right ..) hb)
  rw [h] at h1
  exact Nat.dvd_one.1 h1
theorem gcd_emod_one {a n : Int} (h : Int.gcd a n = 1) : Int.gcd (a % n) n = 1 := by rw [gcd_emod_l]; exact h
theorem jac_cop : ∀ (k : Nat) (a n : Int), 0 ≤ a → a < k → 0 < n → Int.gcd a n = 1 → jac k a n = 1 ∨ jac k a n = -1
  | 0, a, _, h0, h1, _, _ => by omega
  | k + 1, a, n, h0, h1, hn, hg => by
    unfold jac
    split
    · rename_i h; subst h
      have : n = 1 := by rw [Int.gcd_zero_left] at hg; omega
      rw [if_pos this]; exact .inl rfl
    · split
      · have e : a / 2 ∣ a := ⟨2, by omega⟩
        exact sg_mul (two_sg n) (jac_cop k (a / 2) n (by omega) (by omega) hn (gcd_one_of_dvd e (Int.dvd_refl n) hg))
      · have m1 := Int.emod_nonneg n (show a ≠ 0 by assumption)
        have m2 := Int.emod_lt_of_pos n (show 0 < a by omega)
        refine sg_mul ?_ (jac_cop k (n % a) a m1 (by omega) (by omega) (gcd_emod_one (by rw [Int.gcd_comm]; exact hg)))
        split <;> simp
theorem jacS_cop {a n : Int} (h0 : 0 ≤ a) (hn : 0 < n) (h : Int.gcd a n = 1) : jacS a n = 1 ∨ jacS a n = -1 := jac_cop _ _ _ h0 (by omega) hn h
theorem chi_pm {m v : Int} (h1 : 1 ≤ m) (h2 : m ≤ 200000) (hg : Int.gcd v (2 * m) = 1) : ∀ x ∈ chars m, chi x v = 1 ∨ chi x v = -1 := by
  intro x hx
  have hodd : v % 2 = 1 := by
    have h3 := gcd_one_of_dvd (Int.dvd_refl v) (show (2 : Int) ∣ 2 * m from ⟨m, rfl⟩) hg
    rcases Int.emod_two_eq v with h | h
    · have h4 : (2 : Int) ∣ (Int.gcd v 2 : Int) := Int.dvd_coe_gcd (Int.dvd_of_emod_eq_zero h) (Int.dvd_refl 2)
      rw [h3] at h4
      omega
    · exact h
  have hok := chars_ok h1 h2 x hx
  unfold chi
  by_cases hk : x.1 = 1
  · rw [if_pos hk]
    obtain ⟨hp0, hpd⟩ : 0 < x.2 ∧ x.2 ∣ m := by
      rcases hok with ⟨_, a, _, _⟩ | ⟨b, _⟩ | ⟨b, _⟩ | ⟨b, _⟩ <;> try omega
      refine ⟨a, ?_⟩
      unfold chars at hx
      rcases List.mem_append.1 hx with hx | hx
      · unfold chP at hx
        obtain ⟨p, hp, rfl⟩ := List.mem_map.1 hx
        exact prims_dvd (List.mem_filter.1 hp).1
      · exfalso
        unfold tailC at hx
        (repeat' split at hx) <;> simp at hx <;> (try rcases hx with rfl | rfl) <;> (try subst hx) <;> simp at hk
    exact jacS_cop (Int.emod_nonneg _ (by omega)) hp0 (gcd_emod_one (gcd_one_of_dvd (Int.dvd_refl v) (Int.dvd_trans hpd ⟨2, by omega⟩) hg))
  · rw [if_neg hk, if_neg (by omega)]
    have hd : 2 - v % 4 = 1 ∨ 2 - v % 4 = -1 := by omega
    split
    · exact hd
    · split
      · exact two_sg v
      · exact sg_mul hd (two_sg v)
theorem vals_pm {d v : Int} (D : Dsc d) (hg : Int.gcd v (2 * d) = 1) : ∀ x ∈ vals (-d) v, x = 1 ∨ x = -1 := by
  have := D.lo; have := D.hi
  intro x hx
  obtain ⟨c, hc, rfl⟩ := List.mem_map.1 hx
  refine chi_pm (by omega) (by omega) ?_ c hc
  rw [Int.mul_neg, Int.gcd_neg]; exact hg
theorem gn_pm {d : Int} {f : Fm} (D : Dsc d) (hf : f ∈ clsL d) : ∀ x ∈ gnL d f, x = 1 ∨ x = -1 := by
  obtain ⟨x, y, v, h, he⟩ := gn_ex D hf
  rw [← he]
  obtain ⟨_, _, hg, _⟩ := h.pt
  exact vals_pm D (by rw [h.hv]; exact hg.2)
/-- Values that are not 1 or -1 belong to no class. -/
theorem gn_none {d : Int} {V : List Int} (D : Dsc d) {x : Int} (hx : x ∈ V) (h : x ≠ 1 ∧ x ≠ -1) (P : Fm → Bool) (hP : ∀ f, decide (gnL d f = V) = P f) : (clsL d).filter P = [] := by
  rw [List.filter_eq_nil_iff]
  intro f hf he
  rw [← hP f] at he
  have h1 := of_decide_eq_true he
  have := gn_pm D hf x (h1 ▸ hx)
  omega
end Go.Proofs.Ytononfokhdmofaa
