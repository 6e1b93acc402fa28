/- Contracts: the order of matrices, the turns of a reduced form. -/
import Derived.Test.YtkpiiicefmkhcaaVE
import Derived.Test.YtkpiiicefmkhcaaGG
import Derived.Test.YtkpiiicefmkhcaaAK
import Derived.Test.YtkpiiicefmkhcaaW4
namespace Go.Proofs.Ytkpiiicefmkhcaa
open Go.RowKit

def cellsM (L : List M4) : List Value := L.flatMap fun m => [.int .i64 m.p, .int .i64 m.q, .int .i64 m.r, .int .i64 m.s]
theorem cellsM_append (L K : List M4) : cellsM (L ++ K) = cellsM L ++ cellsM K := by simp [cellsM]
theorem infoMt : (Try.prog.info? 49).map (fun i => (i.zero, i.size, i.bytes)) = some (some (.agg #[.int .i64 0, .int .i64 0, .int .i64 0, .int .i64 0]), 4, 32) := by kernel_rfl
theorem cellsM_get : ∀ (L : List M4) (k : Nat) (h : k < L.length), (cellsM L)[k * 4]? = some (.int .i64 L[k].p) ∧ (cellsM L)[k * 4 + 1]? = some (.int .i64 L[k].q) ∧ (cellsM L)[k * 4 + 2]? = some (.int .i64 L[k].r) ∧ (cellsM L)[k * 4 + 3]? = some (.int .i64 L[k].s)
  | m :: L, 0, _ => by simp [cellsM]
  | m :: L, k + 1, h => by
    have ih := cellsM_get L k (by simpa using h)
    have e : cellsM (m :: L) = .int .i64 m.p :: .int .i64 m.q :: .int .i64 m.r :: .int .i64 m.s :: cellsM L := by simp [cellsM]
    rw [e, show (k + 1) * 4 = k * 4 + 1 + 1 + 1 + 1 by omega]
    simpa using ih
theorem own_elemM {w : World} {B : Nat} {e : TypeId} {base : Option Addr} {n cap : Nat} {L : List M4} (h : w.ownsRow B e 4 (.slice base n cap) L.length (cellsM L)) {k : Nat} (hk : k < L.length) :
    ∃ g, base = some ⟨g, 0, none⟩ ∧ g < w.heap.size ∧ w.cell? ⟨g, k * 4, none⟩ = some (.int .i64 L[k].p) ∧ w.cell? ⟨g, k * 4 + 1, none⟩ = some (.int .i64 L[k].q) ∧ w.cell? ⟨g, k * 4 + 2, none⟩ = some (.int .i64 L[k].r) ∧ w.cell? ⟨g, k * 4 + 3, none⟩ = some (.int .i64 L[k].s) := by
  rcases own_form h with ⟨hv, h0⟩ | ⟨g, c, hv, h1, h2, h3⟩
  · omega
  · injection hv with e1 e2 e3
    obtain ⟨a1, a2, a3, a4⟩ := cellsM_get L k hk
    exact ⟨g, e1, h2, h3 _ _ a1, h3 _ _ a2, h3 _ _ a3, h3 _ _ a4⟩
theorem own_snocM {w : World} {B : Nat} {e : TypeId} {v : Value} {L K : List M4} {m : M4} (hx : K = L ++ [m]) (h : w.ownsRow B e 4 v (L.length + 1) (cellsM L ++ [.int .i64 m.p, .int .i64 m.q, .int .i64 m.r, .int .i64 m.s])) :
    w.ownsRow B e 4 v K.length (cellsM K) := by
  subst hx
  rw [List.length_append, cellsM_append]
  exact h
theorem one4m (a b c d : Int) : ∀ u ∈ ([.int .i64 a, .int .i64 b, .int .i64 c, .int .i64 d] : List Value), u.oneCell' = true := by
  intro u hu
  simp at hu
  rcases hu with rfl | rfl | rfl | rfl <;> rfl
theorem cells4m {w : World} {g : Nat} {e : TypeId} {a b c d : Value} (h : Blk w g e #[a, b, c, d]) : ∀ j u, [a, b, c, d][j]? = some u → w.cell? ((⟨g, 0, none⟩ : Addr).add j) = some u := by
  intro j u hj
  have := h.cell j
  match j, hj with
  | 0, hj => simpa [Addr.add, ← hj] using h.cell 0
  | 1, hj => simpa [Addr.add, ← hj] using h.cell 1
  | 2, hj => simpa [Addr.add, ← hj] using h.cell 2
  | 3, hj => simpa [Addr.add, ← hj] using h.cell 3

theorem lesM_cases (m n : M4) : (m.p ≠ n.p ∧ lesM m n = decide (m.p < n.p)) ∨ (m.p = n.p ∧ m.q ≠ n.q ∧ lesM m n = decide (m.q < n.q)) ∨ (m.p = n.p ∧ m.q = n.q ∧ m.r ≠ n.r ∧ lesM m n = decide (m.r < n.r)) ∨ (m.p = n.p ∧ m.q = n.q ∧ m.r = n.r ∧ lesM m n = decide (m.s < n.s)) := by
  unfold lesM
  by_cases h1 : m.p = n.p
  · rw [if_neg (by simp [h1])]
    by_cases h2 : m.q = n.q
    · rw [if_neg (by simp [h2])]
      by_cases h3 : m.r = n.r
      · rw [if_neg (by simp [h3])]; exact .inr (.inr (.inr ⟨h1, h2, h3, rfl⟩))
      · rw [if_pos h3]; exact .inr (.inr (.inl ⟨h1, h2, h3, rfl⟩))
    · rw [if_pos h2]; exact .inr (.inl ⟨h1, h2, rfl⟩)
  · rw [if_pos h1]; exact .inl ⟨h1, rfl⟩
end Go.Proofs.Ytkpiiicefmkhcaa
