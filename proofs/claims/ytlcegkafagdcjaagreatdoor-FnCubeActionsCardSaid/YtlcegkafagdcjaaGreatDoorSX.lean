/- Parts SA SB SC SD laid together by tp.py. -/
import Derived.Test.YtlcegkafagdcjaaGreatDoorKT
import Derived.Test.YtlcegkafagdcjaaGreatDoorUB
import Derived.Test.YtlcegkafagdcjaaGreatDoorR1
import Derived.Test.YtlcegkafagdcjaaGreatDoorN7
namespace Go.Proofs.YtlcegkafagdcjaaGreatDoor
section
structure Ab (α : Type) where
  mul : α → α → α
  one : α
  inv : α → α
  comm : ∀ x y, mul x y = mul y x
  assoc : ∀ x y z, mul (mul x y) z = mul x (mul y z)
  one_mul : ∀ x, mul one x = x
  inv_mul : ∀ x, mul (inv x) x = one
namespace Ab
variable {α : Type} (G : Ab α)
theorem mul_one (x : α) : G.mul x G.one = x := by rw [G.comm, G.one_mul]
theorem mul_inv (x : α) : G.mul x (G.inv x) = G.one := by rw [G.comm, G.inv_mul]
theorem cancel {x y z : α} (h : G.mul x y = G.mul x z) : y = z := by
  have := congrArg (G.mul (G.inv x)) h
  rwa [← G.assoc, ← G.assoc, G.inv_mul, G.one_mul, G.one_mul] at this
theorem left_comm (x y z : α) : G.mul x (G.mul y z) = G.mul y (G.mul x z) := by rw [← G.assoc, G.comm x y, G.assoc]
def pw (x : α) : Nat → α
  | 0 => G.one
  | n + 1 => G.mul x (pw x n)
theorem pw_add (x : α) (a : Nat) : ∀ b, G.pw x (a + b) = G.mul (G.pw x a) (G.pw x b)
  | 0 => by rw [Nat.add_zero, pw, G.mul_one]
  | b + 1 => by rw [← Nat.add_assoc, pw, pw, pw_add x a b, G.left_comm]
theorem pw_mul (x : α) (a : Nat) : ∀ b, G.pw x (a * b) = G.pw (G.pw x a) b
  | 0 => by rw [Nat.mul_zero, pw, pw]
  | b + 1 => by rw [Nat.mul_succ, G.pw_add, pw_mul x a b, pw, G.comm]
theorem pw_one : ∀ n, G.pw G.one n = G.one
  | 0 => rfl
  | n + 1 => by rw [pw, pw_one n, G.one_mul]
theorem pw_prod (x y : α) : ∀ n, G.pw (G.mul x y) n = G.mul (G.pw x n) (G.pw y n)
  | 0 => by rw [pw, pw, pw, G.one_mul]
  | n + 1 => by rw [pw, pw, pw, pw_prod x y n, G.assoc, G.assoc, G.left_comm y]
theorem inv_uniq {x y : α} (h : G.mul x y = G.one) : y = G.inv x := by
  refine G.cancel (x := x) ?_
  rw [h, G.mul_inv]
/-- A finite subgroup as a list. -/
structure Sub (S : List α) : Prop where
  nd : S.Nodup
  one : G.one ∈ S
  mul : ∀ x ∈ S, ∀ y ∈ S, G.mul x y ∈ S
  inv : ∀ x ∈ S, G.inv x ∈ S
theorem Sub.pw {S : List α} (h : G.Sub S) {x : α} (hx : x ∈ S) : ∀ n, G.pw x n ∈ S
  | 0 => h.one
  | n + 1 => h.mul _ hx _ (h.pw hx n)
theorem sub_one : G.Sub [G.one] :=
  ⟨by simp, by simp, by intro x hx y hy; simp at hx hy; subst hx; subst hy; simp [G.one_mul], by intro x hx; simp at hx; subst hx; simp; exact (G.inv_uniq (G.one_mul _)).symm⟩
/-- The least positive exponent that leads into a subgroup divides every such exponent. -/
theorem least_dvd {S : List α} (h : G.Sub S) {x : α} {t n : Nat} (ht : 0 < t) (h1 : G.pw x t ∈ S) (hmin : ∀ k, 0 < k → k < t → G.pw x k ∉ S) (hn : G.pw x n ∈ S) : t ∣ n := by
  have e : G.pw x n = G.mul (G.pw (G.pw x t) (n / t)) (G.pw x (n % t)) := by
    rw [← G.pw_mul, ← G.pw_add, Nat.div_add_mod]
  have h2 : G.pw x (n % t) ∈ S := by
    have e2 : G.pw x (n % t) = G.mul (G.inv (G.pw (G.pw x t) (n / t))) (G.pw x n) := by
      rw [e, ← G.assoc, G.inv_mul, G.one_mul]
    rw [e2]
    exact h.mul _ (h.inv _ (h.pw G h1 _)) _ hn
  by_cases h0 : n % t = 0
  · exact Nat.dvd_of_mod_eq_zero h0
  · exact absurd h2 (hmin _ (Nat.pos_of_ne_zero h0) (Nat.mod_lt _ ht))
/-- One element more. -/
def ext (S : List α) (x : α) (t : Nat) : List α := (List.range t).flatMap fun j => S.map fun h => G.mul (G.pw x j) h
/-- n is the order of x. -/
def IsO (x : α) (n : Nat) : Prop := 0 < n ∧ G.pw x n = G.one ∧ ∀ k, 0 < k → k < n → G.pw x k ≠ G.one
theorem IsO.dvd {x : α} {n k : Nat} (h : G.IsO x n) (hk : G.pw x k = G.one) : n ∣ k :=
  G.least_dvd (x := x) G.sub_one h.1 (by simp [h.2.1]) (fun k h1 h2 => by simp [h.2.2 k h1 h2]) (by simp [hk])
theorem IsO.mk' {x : α} {n : Nat} (hn : 0 < n) (h : G.pw x n = G.one) (hd : ∀ k, 0 < k → G.pw x k = G.one → n ∣ k) : G.IsO x n :=
  ⟨hn, h, fun k h1 h2 h3 => by have := Nat.le_of_dvd h1 (hd k h1 h3); omega⟩
/-- Orders that are coprime multiply. -/
theorem IsO.mul {x y : α} {a b : Nat} (hx : G.IsO x a) (hy : G.IsO y b) (hc : Nat.Coprime a b) : G.IsO (G.mul x y) (a * b) := by
  refine IsO.mk' G (Nat.mul_pos hx.1 hy.1) ?_ ?_
  · rw [G.pw_prod, G.pw_mul x, hx.2.1, G.pw_one, G.one_mul, Nat.mul_comm, G.pw_mul, hy.2.1, G.pw_one]
  · intro k _ hk
    have h1 : a ∣ k * b := by
      refine hx.dvd G ?_
      have := congrArg (fun z => G.pw z b) hk
      simp only [← G.pw_mul, G.pw_one] at this
      rw [G.pw_prod, Nat.mul_comm k b, G.pw_mul y, hy.2.1, G.pw_one, G.mul_one] at this
      rwa [Nat.mul_comm k b]
    have h2 : b ∣ k * a := by
      refine hy.dvd G ?_
      have := congrArg (fun z => G.pw z a) hk
      simp only [← G.pw_mul, G.pw_one] at this
      rw [G.pw_prod, Nat.mul_comm k a, G.pw_mul x, hx.2.1, G.pw_one, G.one_mul] at this
      rwa [Nat.mul_comm k a]
    exact Nat.Coprime.mul_dvd_of_dvd_of_dvd hc (hc.dvd_of_dvd_mul_right h1) (hc.symm.dvd_of_dvd_mul_right h2)
end Ab
end

section
open Go.RowKit

noncomputable def clG {d : Int} (D : Dsc d) : Ab {f : Fm // f ∈ clsL d} where
  mul x y := ⟨cmp d x.1 y.1, D.cmpm x.2 y.2⟩
  one := ⟨oneF d, D.one⟩
  inv x := ⟨red (oppF x.1), D.opp_mem x.2 (CF.of_mem D x.2).df⟩
  comm x y := Subtype.ext (D.comm x.2 y.2)
  assoc x y z := Subtype.ext (D.assoc x.2 y.2 z.2)
  one_mul x := Subtype.ext (D.one_mul x.2)
  inv_mul x := Subtype.ext (by
    show cmp d (red (oppF x.1)) x.1 = oneF d
    rw [D.comm (D.opp_mem x.2 (CF.of_mem D x.2).df) x.2]
    exact D.inv x.2 (CF.of_mem D x.2).df)
end

section
open Go.RowKit

end

section
open Go.RowKit

end
end Go.Proofs.YtlcegkafagdcjaaGreatDoor
