/- Contracts: forms of ideals and whether they are primitive, of the program and the reference. -/
import Derived.Test.YtohgccgbbipjjaaGreatRL
namespace Go.Proofs.YtohgccgbbipjjaaGreat
open Go.RowKit

/-- The third coefficient of the form of an ideal. -/
theorem IdV.form {d e a b : Int} (h : IdV d e a b) : ∃ c : Int, b * b - d = 4 * a * c ∧ 1 ≤ c ∧ c ≤ 400002000 ∧ (-2000 ≤ d ∧ d ≤ -3) := by
  have hd : -2000 ≤ d ∧ d ≤ -3 := by
    have := h.dc
    unfold isDisc at this
    simp only [Bool.and_eq_true, decide_eq_true_eq] at this
    exact ⟨this.1, this.2.1⟩
  have h1 := h.a1; have h2 := h.a2; have h3 := h.b0; have h4 := h.b2
  have m1 := mul_bd (a := b) (x := b) (A := 20000) (X := 20000) (by omega) (by omega) (by omega) (by omega)
  obtain ⟨c, hc⟩ := Int.dvd_of_emod_eq_zero h.r
  have c0 : 1 ≤ c := by
    apply Classical.byContradiction; intro hn
    have h5 : 4 * a * c ≤ 4 * a * 0 := Int.mul_le_mul_of_nonneg_left (by omega) (by omega)
    have h6 : 0 ≤ b * b := Int.mul_nonneg h3 h3
    omega
  have c1 : c ≤ 4 * a * c := by have := Int.mul_le_mul_of_nonneg_right (show 1 ≤ 4 * a by omega) (show 0 ≤ c by omega); omega
  exact ⟨c, hc, c0, by omega, hd⟩
end Go.Proofs.YtohgccgbbipjjaaGreat
