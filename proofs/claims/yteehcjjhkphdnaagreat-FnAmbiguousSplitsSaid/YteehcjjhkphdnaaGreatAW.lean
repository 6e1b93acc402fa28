/- Plain facts, by the kernel: an odd number up to 499 that is no power of a prime is divided by its ambiguous classes. -/
import Derived.Test.YteehcjjhkphdnaaGreatDW
import Derived.Test.YteehcjjhkphdnaaGreatN5
namespace Go.Proofs.YteehcjjhkphdnaaGreat

def endB (n : Int) : Bool :=
  match facL n with
  | [] => false
  | x :: t => decide (x = (x :: t).getLastD x) || (dvT n).any fun k => decide (1 < k) && decide (k < n)
theorem endB_all : (List.range 249).all (fun i => endB (2 * i + 3)) = true := by decide +kernel
theorem dv_end {n : Int} (h : oddB n = true) : ∃ F, facL n = F ∧ ∃ (h0 : 0 < F.length), F[0] = F[F.length - 1] ∨ ∃ k ∈ (dvT n).foldl putI [], 1 < k ∧ k < n := by
  obtain ⟨h1, h2, h3⟩ := oddB_bd h
  have he := List.all_eq_true.1 endB_all ((n - 3) / 2).toNat (List.mem_range.2 (by omega))
  rw [show (2 * (((n - 3) / 2).toNat : Int) + 3) = n by omega] at he
  unfold endB at he
  cases hF : facL n with
  | nil => rw [hF] at he; exact absurd he (by simp)
  | cons x t =>
    rw [hF] at he
    refine ⟨_, rfl, by simp, ?_⟩
    simp only [Bool.or_eq_true, decide_eq_true_eq, List.any_eq_true, Bool.and_eq_true] at he
    rcases he with he | ⟨k, hk, hk2⟩
    · left
      have e : ((x :: t).getLastD x) = (x :: t)[(x :: t).length - 1] := by
        rw [List.getLastD_eq_getLast?, List.getLast?_eq_getElem?, List.getElem?_eq_getElem (by simp)]; rfl
      rw [← e]; exact he
    · exact .inr ⟨k, ((foldPut_ok (dvT n) [] List.Pairwise.nil).2 k).2 (.inr hk), hk2⟩
end Go.Proofs.YteehcjjhkphdnaaGreat
