/- Plain facts: the lists of all reduced forms of a discriminant. -/
import Derived.Test.YtifkmjmhhklkjaaM1
namespace Go.Proofs.Ytifkmjmhhklkjaa

/-- The reduced form with the first coefficients a and b, if there is one. -/
def cand (d a b : Int) : Option Fm :=
  if (b * b - d) % (4 * a) = 0 ∧ isRed a b ((b * b - d) / (4 * a)) = true then some ⟨a, b, (b * b - d) / (4 * a)⟩ else none
/-- Those with the first coefficient a, for the first j of the second coefficients. -/
def rowF (d a : Int) (j : Nat) : List Fm := (List.range j).filterMap fun i : Nat => cand d a (1 - a + i)
/-- Those with the first coefficients 1 .. k. -/
def allF (d : Int) (k : Nat) : List Fm := (List.range k).flatMap fun i : Nat => rowF d (i + 1) (2 * (i + 1))
/-- How many first coefficients there are. -/
def kOf (d : Int) : Nat := ((List.range 40).find? fun k : Nat => !decide (3 * ((k : Int) + 1) * (k + 1) ≤ -d)).getD 40
def allR (d : Int) : List Fm := allF d (kOf d)
/-- Those whose coefficients have no common divisor. -/
def primB (f : Fm) : Bool := decide (Int.gcd f.a (Int.gcd f.b f.c) = 1)
def clsL (d : Int) : List Fm := (allR d).filter primB

theorem rowF_succ (d a : Int) (j : Nat) : rowF d a (j + 1) = rowF d a j ++ (cand d a (1 - a + j)).toList := by
  unfold rowF
  rw [List.range_succ, List.filterMap_append]
  congr 1
theorem allF_succ (d : Int) (k : Nat) : allF d (k + 1) = allF d k ++ rowF d (k + 1) (2 * (k + 1)) := by
  unfold allF
  rw [List.range_succ, List.flatMap_append]
  simp

theorem mul_mono3 {i k : Int} (h0 : 0 ≤ i) (h : i ≤ k) : 3 * (i + 1) * (i + 1) ≤ 3 * (k + 1) * (k + 1) := by
  have h1 : (i + 1) * (i + 1) ≤ (k + 1) * (k + 1) := Int.mul_le_mul (by omega) (by omega) (by omega) (by omega)
  rw [Int.mul_assoc, Int.mul_assoc]; omega

theorem kOf_eq {d : Int} {k : Nat} (hk : k < 40) (h1 : k = 0 ∨ 3 * (k : Int) * k ≤ -d) (h2 : ¬ 3 * ((k : Int) + 1) * (k + 1) ≤ -d) : kOf d = k := by
  have : (List.range 40).find? (fun k : Nat => !decide (3 * ((k : Int) + 1) * (k + 1) ≤ -d)) = some k := by
    rw [List.find?_range_eq_some]
    refine ⟨by simpa using h2, by simpa using hk, fun j hj => ?_⟩
    rcases h1 with h1 | h1
    · omega
    · have := mul_mono3 (i := j) (k := (k : Int) - 1) (by omega) (by omega)
      have e : (k : Int) - 1 + 1 = k := by omega
      rw [e] at this
      simp; omega
  unfold kOf
  rw [this]; rfl

theorem cand_some {d a b : Int} {f : Fm} (h : cand d a b = some f) : f.a = a ∧ f.b = b ∧ disc f = d ∧ isRed f.a f.b f.c = true := by
  unfold cand at h
  split at h
  · rename_i hc
    injection h with h
    subst h
    refine ⟨rfl, rfl, ?_, hc.2⟩
    have := Int.emod_add_mul_ediv (b * b - d) (4 * a)
    rw [hc.1] at this
    show b * b - 4 * a * ((b * b - d) / (4 * a)) = d
    omega
  · cases h

theorem mem_allF {d : Int} {k : Nat} {f : Fm} (h : f ∈ allF d k) : 1 ≤ f.a ∧ f.a ≤ k ∧ disc f = d ∧ isRed f.a f.b f.c = true := by
  unfold allF at h
  obtain ⟨i, hi, hf⟩ := List.mem_flatMap.1 h
  unfold rowF at hf
  obtain ⟨j, hj, hc⟩ := List.mem_filterMap.1 hf
  obtain ⟨e1, _, e3, e4⟩ := cand_some hc
  have := List.mem_range.1 hi
  exact ⟨by omega, by omega, e3, e4⟩

theorem kOf_le (d : Int) : kOf d ≤ 40 := by
  unfold kOf
  cases h : (List.range 40).find? fun k : Nat => !decide (3 * ((k : Int) + 1) * (k + 1) ≤ -d) with
  | none => simp
  | some k =>
    have := List.mem_of_find?_eq_some h
    simp at this
    simp; omega

/-- A reduced form of a discriminant of the range is small. -/
theorem mem_allR {d : Int} {f : Fm} (hd : -2000 ≤ d) (h : f ∈ allR d) : 1 ≤ f.a ∧ f.a ≤ 40 ∧ disc f = d ∧ isRed f.a f.b f.c = true ∧ -40 ≤ f.b ∧ f.b ≤ 40 ∧ f.c ≤ 1000 := by
  obtain ⟨h1, h2, h3, h4⟩ := mem_allF h
  have hk := kOf_le d
  have h5 := (isRed_iff _ _ _).1 h4
  have hb := mul_bd (a := f.b) (x := f.b) (A := 40) (X := 40) (by omega) (by omega) (by omega) (by omega)
  have hc : f.c ≤ 1000 := by
    apply Int.not_lt.1
    intro hc
    unfold disc at h3
    have h6 : 1 * f.c ≤ f.a * f.c := Int.mul_le_mul_of_nonneg_right h1 (by omega)
    have e : 4 * f.a * f.c = 4 * (f.a * f.c) := Int.mul_assoc _ _ _
    omega
  exact ⟨h1, by omega, h3, h4, by omega, by omega, hc⟩

theorem mem_clsL {d : Int} {f : Fm} (hd : -2000 ≤ d) (h : f ∈ clsL d) : (1 ≤ f.a ∧ f.a ≤ 40 ∧ disc f = d ∧ isRed f.a f.b f.c = true ∧ -40 ≤ f.b ∧ f.b ≤ 40 ∧ f.c ≤ 1000) ∧ Int.gcd f.a (Int.gcd f.b f.c) = 1 := by
  unfold clsL at h
  rw [List.mem_filter] at h
  exact ⟨mem_allR hd h.1, by simpa [primB] using h.2⟩

theorem rowF_len (d a : Int) (j : Nat) : (rowF d a j).length ≤ j := by
  unfold rowF
  exact Nat.le_trans (List.length_filterMap_le _ _) (by simp)
theorem allF_len (d : Int) : ∀ k : Nat, (allF d k).length ≤ k * (k + 1)
  | 0 => by simp [allF]
  | k + 1 => by
    rw [allF_succ, List.length_append]
    have h1 := allF_len d k
    have h2 := rowF_len d (k + 1) (2 * (k + 1))
    have : (k + 1) * (k + 1 + 1) = k * (k + 1) + 2 * (k + 1) := by rw [Nat.mul_comm]; simp [Nat.add_mul]; omega
    omega
theorem allR_len (d : Int) : (allR d).length ≤ 1640 := by
  have h := allF_len d (kOf d)
  have h2 := Nat.mul_le_mul (kOf_le d) (Nat.succ_le_succ (kOf_le d))
  unfold allR; exact Nat.le_trans h h2
theorem clsL_len (d : Int) : (clsL d).length ≤ 1640 := Nat.le_trans (List.length_filter_le _ _) (allR_len d)
end Go.Proofs.Ytifkmjmhhklkjaa
