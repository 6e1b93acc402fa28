/- Plain facts: an injective map of a finite list into itself comes back; a point with a value coprime to a number. No program in sight. -/
import Derived.Test.YtifkmjmhhklkjaaM5
namespace Go.Proofs.Ytifkmjmhhklkjaa

def itN (T : Fm → Fm) : Nat → Fm → Fm
  | 0, p => p
  | k + 1, p => T (itN T k p)
theorem itN_mem {T : Fm → Fm} {S : List Fm} (hmap : ∀ p ∈ S, T p ∈ S) {p : Fm} (hp : p ∈ S) : ∀ k, itN T k p ∈ S
  | 0 => hp
  | k + 1 => hmap _ (itN_mem hmap hp k)
theorem itN_back {T : Fm → Fm} {S : List Fm} (hmap : ∀ p ∈ S, T p ∈ S) (hinj : ∀ p ∈ S, ∀ q ∈ S, T p = T q → p = q) {p : Fm} (hp : p ∈ S) : ∀ i k, itN T (i + k) p = itN T i p → itN T k p = p
  | 0, k, h => by rw [Nat.zero_add] at h; exact h
  | i + 1, k, h => by
    rw [Nat.add_right_comm] at h
    exact itN_back hmap hinj hp i k (hinj _ (itN_mem hmap hp _) _ (itN_mem hmap hp _) h)
theorem itN_orbit {T : Fm → Fm} {S : List Fm} (hmap : ∀ p ∈ S, T p ∈ S) (hinj : ∀ p ∈ S, ∀ q ∈ S, T p = T q → p = q) {p : Fm} (hp : p ∈ S) : ∃ k, 1 ≤ k ∧ k ≤ S.length ∧ itN T k p = p := by
  apply Classical.byContradiction
  intro hno
  have hnd : ((List.range (S.length + 1)).map (fun k => itN T k p)).Nodup := by
    refine List.Pairwise.map _ (R := fun i j => i < j ∧ j < S.length + 1) ?_ ?_
    · rintro i j ⟨h1, h2⟩ he
      obtain ⟨k, rfl⟩ := Nat.exists_eq_add_of_lt h1
      exact hno ⟨k + 1, by omega, by omega, itN_back hmap hinj hp i (k + 1) he.symm⟩
    · exact List.Pairwise.imp_of_mem (fun {i j} hi hj h => ⟨h, by simpa using hj⟩) List.pairwise_lt_range
  have hs : (List.range (S.length + 1)).map (fun k => itN T k p) ⊆ S := by
    intro q hq
    obtain ⟨k, _, rfl⟩ := List.mem_map.1 hq
    exact itN_mem hmap hp k
  have := hnd.length_le_of_subset hs
  simp at this
  omega

def pts : List (Nat × Nat) := [(0, 1), (1, 0), (1, 1), (1, 2), (2, 1), (1, 3), (3, 1), (2, 3), (3, 2)]
def ptOk (m A B C : Nat) : Bool := pts.any fun p => Nat.gcd (A * (p.1 * p.1) + B * (p.1 * p.2) + C * (p.2 * p.2)) m == 1
def ptAll (m : Nat) : Bool := (List.range m).all fun A => Nat.gcd A m == 1 || (List.range m).all fun C => Nat.gcd C m == 1 || (List.range m).all fun B => Nat.gcd (Nat.gcd A B) (Nat.gcd C m) != 1 || ptOk m A B C
theorem pt_all : (List.range 27).all ptAll = true := by decide +kernel
/-- Every form without a divisor common with m has a small point whose value has none. -/
theorem pt_nat {m A B C : Nat} (hm : m < 27) (hA : A < m) (hB : B < m) (hC : C < m) (h : Nat.gcd (Nat.gcd A B) (Nat.gcd C m) = 1) : ptOk m A B C = true := by
  have h1 := List.all_eq_true.1 pt_all m (List.mem_range.2 hm)
  have h2 := List.all_eq_true.1 h1 A (List.mem_range.2 hA)
  rw [Bool.or_eq_true] at h2
  rcases h2 with h2 | h2
  · unfold ptOk
    rw [List.any_eq_true]
    exact ⟨(1, 0), by simp [pts], by simpa using h2⟩
  have h3 := List.all_eq_true.1 h2 C (List.mem_range.2 hC)
  rw [Bool.or_eq_true] at h3
  rcases h3 with h3 | h3
  · unfold ptOk
    rw [List.any_eq_true]
    exact ⟨(0, 1), by simp [pts], by simpa using h3⟩
  have h4 := List.all_eq_true.1 h3 B (List.mem_range.2 hB)
  rw [Bool.or_eq_true] at h4
  rcases h4 with h4 | h4
  · simp [h] at h4
  · exact h4
end Go.Proofs.Ytifkmjmhhklkjaa
