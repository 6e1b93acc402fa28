/- Contracts: PrimeForm of both sides; the form of a prime is one of a class. -/
import Derived.Test.YtkpiiicefmkhcaaPA
import Derived.Test.YtkpiiicefmkhcaaK7
namespace Go.Proofs.Ytkpiiicefmkhcaa
open Go.RowKit

/-- The form of a prime, if there is one. -/
def prF (d p : Int) : Option Fm := if isDisc d && shB p then (pf d p).filter primB else none
theorem prF_no1 {d p : Int} (h : isDisc d = false) : prF d p = none := by unfold prF; rw [h]; rfl
theorem prF_no2 {d p : Int} (h : shB p = false) : prF d p = none := by unfold prF; rw [h, Bool.and_false]; rfl
theorem prF_yes {d p : Int} (h : isDisc d = true) (h2 : shB p = true) : prF d p = (pf d p).filter primB := by unfold prF; rw [h, h2]; rfl
theorem pf_cf {d p : Int} {f : Fm} (D : Dsc d) (hp : 2 ≤ p ∧ p ≤ 10000) (h : pf d p = some f) (hb : primB f = true) : CF d f (red f) := by
  obtain ⟨x, hx, hm, rfl⟩ := pfF_some _ _ _ _ _ h (Int.le_refl _)
  obtain ⟨⟨n1, n2⟩, ⟨n3, n4⟩, ⟨n5, n6⟩⟩ := pf_nums D hp hx
  have hg := of_decide_eq_true hb
  have e := Int.emod_add_mul_ediv (x * x - d) (4 * p)
  rw [hm, Int.zero_add] at e
  have n7 : (x * x - d) / (4 * p) ≤ 12500250 := Int.ediv_le_of_le_mul (by omega) (by omega)
  generalize (x * x - d) / (4 * p) = c at *
  have h1 := D.lo; have h2 := D.hi
  have e2 : 4 * p * c = 4 * (p * c) := Int.mul_assoc _ _ _
  have c0 : 0 < c := by
    apply Int.not_le.1; intro hl
    have : p * c ≤ p * 0 := Int.mul_le_mul_of_nonneg_left hl (by omega)
    omega
  have hd : Def M0 ⟨p, x, c⟩ := by
    unfold M0
    exact ⟨by show 0 < p; omega, by show p ≤ _; omega, c0, by show c ≤ _; omega, by show x * x < 4 * (p * c); omega⟩
  have hdc : disc ⟨p, x, c⟩ = d := by
    unfold disc
    show x * x - 4 * p * c = d
    omega
  refine ⟨D, hd, rfl, mem_clsL_of h1 (red_def hd).a0 ((red_disc hd).trans hdc) (red_isRed hd) (red_prm hd hg), hdc, ⟨by show _ ≤ x * x; omega, by show x * x ≤ _; omega⟩, ⟨by show _ ≤ 4 * p; omega, by show 4 * p ≤ _; omega⟩, ⟨by show _ ≤ 4 * p * c; omega, by show 4 * p * c ≤ _; omega⟩⟩
theorem prF_cf {d p : Int} {f : Fm} (h : prF d p = some f) : CF d f (red f) := by
  unfold prF at h
  split at h
  · rename_i h1
    rw [Bool.and_eq_true] at h1
    rw [Option.filter_eq_some_iff] at h
    exact pf_cf (dsc_of h1.1) (shB_lo h1.2) h.1 h.2
  · simp at h

end Go.Proofs.Ytkpiiicefmkhcaa
