/- Contracts: l1Put, a sorted insertion. -/
import Derived.Test.YtohgccgbbipjjaaGreatN5
import Derived.Test.YtohgccgbbipjjaaGreatW4
namespace Go.Proofs.YtohgccgbbipjjaaGreat
open Go.RowKit

theorem readsTake {w : World} {B size n : Nat} {A : Option Addr} {xs : List Value} (h : Reads w B size A n xs) {k : Nat} (hk : k ≤ n) : Reads w B size A k (xs.take (k * size)) := by
  refine ⟨by rw [List.length_take, h.1]; exact Nat.min_eq_left (Nat.mul_le_mul_right _ hk), fun h0 => ?_⟩
  obtain ⟨ad, e, hb, hc⟩ := h.2 (by omega)
  exact ⟨ad, e, hb, fun j u hu => hc j u (by rw [List.getElem?_take] at hu; split at hu <;> simp_all)⟩
theorem add_zero_blk (g k : Nat) : (⟨g, 0, none⟩ : Addr).add k = ⟨g, k, none⟩ := by unfold Addr.add; split <;> simp_all
end Go.Proofs.YtohgccgbbipjjaaGreat
