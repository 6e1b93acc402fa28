/- Plain facts: the span of a list of elements without reduction. No program in sight. -/
import Derived.Test.YtjjkndgokdofdaaRB
namespace Go.Proofs.Ytjjkndgokdofdaa

theorem sn_step {u v x y : Int} {M : Nat} (hy : y ≠ 0) (hp : x.natAbs * v.natAbs + u.natAbs * y.natAbs ≤ M) :
    (v.tdiv y).natAbs ≤ v.natAbs ∧ (v.tdiv y * x).natAbs ≤ M ∧ (u - v.tdiv y * x).natAbs ≤ M ∧ (v.tdiv y * y).natAbs ≤ v.natAbs ∧ (v - v.tdiv y * y).natAbs < y.natAbs ∧ (v - v.tdiv y * y).natAbs ≤ v.natAbs ∧ (u - v.tdiv y * x).natAbs * y.natAbs + x.natAbs * (v - v.tdiv y * y).natAbs ≤ M := by
  have hr : v - v.tdiv y * y = v.tmod y := by
    have := Int.mul_tdiv_add_tmod v y
    rw [Int.mul_comm]; omega
  have h1 : (v.tdiv y).natAbs = v.natAbs / y.natAbs := Int.natAbs_tdiv v y
  have h2 : (v.tmod y).natAbs = v.natAbs % y.natAbs := Int.natAbs_tmod v y
  have h3 := Nat.div_add_mod v.natAbs y.natAbs
  have hy0 : 0 < y.natAbs := by omega
  have h4 := Nat.mod_lt v.natAbs hy0
  have h5 : (u - v.tdiv y * x).natAbs ≤ u.natAbs + v.natAbs / y.natAbs * x.natAbs := by
    have a1 := Int.natAbs_sub_le u (v.tdiv y * x)
    rw [Int.natAbs_mul, h1] at a1
    exact a1
  have h6 : v.natAbs / y.natAbs ≤ v.natAbs := Nat.div_le_self _ _
  have h7 : (u - v.tdiv y * x).natAbs * y.natAbs + x.natAbs * (v.natAbs % y.natAbs) ≤ M := by
    have a1 := Nat.mul_le_mul_right y.natAbs h5
    have a2 : (u.natAbs + v.natAbs / y.natAbs * x.natAbs) * y.natAbs + x.natAbs * (v.natAbs % y.natAbs) = u.natAbs * y.natAbs + x.natAbs * (y.natAbs * (v.natAbs / y.natAbs) + v.natAbs % y.natAbs) := by grind
    rw [h3] at a2
    omega
  have h8 : (v.tdiv y * x).natAbs ≤ M := by
    rw [Int.natAbs_mul, h1]
    have := Nat.mul_le_mul_right x.natAbs h6
    have e : v.natAbs * x.natAbs = x.natAbs * v.natAbs := Nat.mul_comm _ _
    omega
  have h9 : (u - v.tdiv y * x).natAbs ≤ M := by
    have := Nat.le_mul_of_pos_right (u - v.tdiv y * x).natAbs hy0
    omega
  have h10 : (v.tdiv y * y).natAbs ≤ v.natAbs := by
    rw [Int.natAbs_mul, h1]
    exact Nat.div_mul_le_self _ _
  rw [hr, h2]
  exact ⟨by omega, h8, h9, h10, h4, Nat.mod_le _ _, h7⟩
def spT (k : Nat) : Nat := if k ≤ 1 then 0 else if k = 2 then 200000000 else if k = 3 then 8000000000000 else 170000000000000000
def spV (k : Nat) : Nat := if k ≤ 1 then 0 else 20000
theorem spT_step {k : Nat} (h1 : 1 ≤ k) (h2 : k ≤ 3) {u v x y : Int} (hu : u.natAbs ≤ spT k) (hv : v.natAbs ≤ spV k) (hx : x.natAbs ≤ 200000000) (hy : y.natAbs ≤ 20000) :
    u.natAbs ≤ spT (k + 1) ∧ x.natAbs ≤ spT (k + 1) ∧ x.natAbs * v.natAbs + u.natAbs * y.natAbs ≤ spT (k + 1) ∧ spT (k + 1) ≤ 170000000000000000 ∧ v.natAbs ≤ 20000 ∧ spV (k + 1) = 20000 := by
  have m1 := Nat.mul_le_mul hx hv
  have m2 := Nat.mul_le_mul hu hy
  rcases (show k = 1 ∨ k = 2 ∨ k = 3 by omega) with rfl | rfl | rfl <;> (simp [spT, spV] at *; omega)
theorem spT_le (k : Nat) : spT k ≤ 170000000000000000 ∧ spV k ≤ 20000 := by
  unfold spT spV
  split <;> (try split) <;> (try split) <;> omega
theorem sn_gcd {n u v x : Int} {S : List (Int × Int)} (h : SpEq [(n, 0), (u, v), (x, 0)] S) : SpEq [((Int.gcd n x : Int), 0), (u, v)] S := by
  have h1 : SpEq ([((Int.gcd n x : Int), 0)] ++ [(u, v)]) ([(n, 0), (x, 0)] ++ [(u, v)]) := (SpEq.gcd n x).app (SpEq.refl _)
  refine h1.trans ((SpEq.perm fun t => ?_).trans h)
  simp only [List.cons_append, List.nil_append, List.mem_cons, List.not_mem_nil, or_false]
  exact ⟨fun h => by rcases h with h | h | h <;> simp [h], fun h => by rcases h with h | h | h <;> simp [h]⟩
theorem sn_eu {n u v x y q : Int} : SpEq [(n, 0), (x, y), (u - q * x, v - q * y)] [(n, 0), (u, v), (x, y)] :=
  (SpEq.refl [(n, 0)]).app (SpEq.step q u v x y)
theorem sn_end {L : List (Int × Int)} {n u v A e t : Int} (h : SpEq [(n, 0), (u, v)] L) (hn : SpEq [(2 * e * A, 0), (e * t, e)] L) (h0 : 0 < n) (hA : 0 < A) (he : 0 < e) :
    v ≠ 0 ∧ n = 2 * e * A ∧ ∃ r, (v < 0 → -v = e ∧ -u = e * r) ∧ (0 < v → v = e ∧ u = e * r) ∧ (-r) % (2 * A) = (-t) % (2 * A) := by
  have hs := hn.trans h.symm
  have hN : 0 ≤ 2 * e * A := Int.le_of_lt (Int.mul_pos (by omega) hA)
  have fin : ∀ z : Int, n = 2 * e * A → n ∣ e * t - z → ∃ r, z = e * r ∧ (-r) % (2 * A) = (-t) % (2 * A) := by
    rintro z hn ⟨j, hj⟩
    refine ⟨t - 2 * A * j, by rw [hn] at hj; grind, ?_⟩
    rw [show -(t - 2 * A * j) = -t + 2 * A * j by omega, Int.add_mul_emod_self_left]
  rcases Int.lt_trichotomy v 0 with h1 | h1 | h1
  · have hs2 : SpEq [(2 * e * A, 0), (e * t, e)] [(n, 0), (-u, -v)] := hs.trans (SpEq.neg n u v).symm
    obtain ⟨e1, e2, e3⟩ := hnf_uniq h0 (show 0 < -v by omega) hN (by omega) hs2
    obtain ⟨r, r1, r2⟩ := fin (-u) e2.symm e3
    exact ⟨by omega, e2.symm, r, fun _ => ⟨e1.symm, r1⟩, fun h => by omega, r2⟩
  · exfalso
    obtain ⟨k, l, _, p2⟩ := Sp.two_iff.1 ((hs (e * t, e)).1 (Sp.mem (by simp)))
    rw [h1] at p2; simp at p2; omega
  · obtain ⟨e1, e2, e3⟩ := hnf_uniq h0 h1 hN (by omega) hs
    obtain ⟨r, r1, r2⟩ := fin u e2.symm e3
    exact ⟨by omega, e2.symm, r, fun h => by omega, fun _ => ⟨e1.symm, r1⟩, r2⟩
end Go.Proofs.Ytjjkndgokdofdaa
