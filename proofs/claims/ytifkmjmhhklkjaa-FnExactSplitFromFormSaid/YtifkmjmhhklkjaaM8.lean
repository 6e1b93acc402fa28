/- Plain facts: the list of the class forms is complete. No program in sight. -/
import Derived.Test.YtifkmjmhhklkjaaM7
import Derived.Test.YtifkmjmhhklkjaaM2
namespace Go.Proofs.Ytifkmjmhhklkjaa

theorem cand_of {f : Fm} (ha : 0 < f.a) (hr : isRed f.a f.b f.c = true) : cand (disc f) f.a f.b = some f := by
  have e : f.b * f.b - disc f = 4 * f.a * f.c := by unfold disc; omega
  have h1 : (f.b * f.b - disc f) % (4 * f.a) = 0 := by rw [e]; exact Int.mul_emod_right _ _
  have h2 : (f.b * f.b - disc f) / (4 * f.a) = f.c := by rw [e]; exact Int.mul_ediv_cancel_left _ (by omega)
  unfold cand
  rw [h2, if_pos ⟨h1, hr⟩]
theorem kOf_ge {d a : Int} (hd : -2000 ≤ d) (ha : 0 ≤ a) (h : 3 * (a * a) ≤ -d) : a ≤ kOf d := by
  have h40 : a ≤ 26 := by
    apply Int.not_lt.1; intro hl
    have := Int.mul_le_mul (show (27 : Int) ≤ a by omega) (show (27 : Int) ≤ a by omega) (by omega) (by omega)
    omega
  apply Int.not_lt.1
  intro hl
  unfold kOf at hl
  cases hf : (List.range 40).find? fun k : Nat => !decide (3 * ((k : Int) + 1) * (k + 1) ≤ -d) with
  | none => rw [hf] at hl; simp at hl; omega
  | some k =>
    rw [hf] at hl
    simp only [Option.getD_some] at hl
    have hp := List.find?_some hf
    simp only [Bool.not_eq_true', decide_eq_false_iff_not] at hp
    apply hp
    have h1 : ((k : Int) + 1) * ((k : Int) + 1) ≤ a * a := Int.mul_le_mul (by omega) (by omega) (by omega) (by omega)
    rw [Int.mul_assoc]; omega
theorem mem_allR_of {d : Int} {f : Fm} (hd : -2000 ≤ d) (ha : 0 < f.a) (hdd : disc f = d) (hr : isRed f.a f.b f.c = true) : f ∈ allR d := by
  obtain ⟨⟨b1, b2⟩, b3⟩ := (isRed_iff _ _ _).1 hr
  have h3 : 3 * (f.a * f.a) ≤ -d := by
    have k1 : f.b * f.b ≤ f.a * f.a := (by
      have := mul_bd (a := f.b) (x := f.b) (A := f.a) (X := f.a) (by omega) (by omega) (by omega) (by omega)
      exact this.2)
    have k2 : f.a * f.a ≤ f.a * f.c := Int.mul_le_mul_of_nonneg_left (by omega) (by omega)
    have e : 4 * f.a * f.c = 4 * (f.a * f.c) := Int.mul_assoc _ _ _
    unfold disc at hdd
    omega
  have hk := kOf_ge hd (by omega) h3
  unfold allR allF
  refine List.mem_flatMap.2 ⟨(f.a - 1).toNat, List.mem_range.2 (by omega), ?_⟩
  have ea : (((f.a - 1).toNat : Int) + 1) = f.a := by omega
  rw [ea]
  unfold rowF
  refine List.mem_filterMap.2 ⟨(f.b - 1 + f.a).toNat, List.mem_range.2 (by omega), ?_⟩
  have eb : 1 - f.a + (((f.b - 1 + f.a).toNat : Nat) : Int) = f.b := by omega
  rw [eb, ← hdd]
  exact cand_of ha hr
theorem mem_clsL_of {d : Int} {f : Fm} (hd : -2000 ≤ d) (ha : 0 < f.a) (hdd : disc f = d) (hr : isRed f.a f.b f.c = true) (hp : Int.gcd f.a (Int.gcd f.b f.c) = 1) : f ∈ clsL d := by
  unfold clsL
  exact List.mem_filter.2 ⟨mem_allR_of hd ha hdd hr, by simpa [primB] using hp⟩
end Go.Proofs.Ytifkmjmhhklkjaa
