/- Words for slices of structs that the call itself made. -/
import Derived.Test.YtifkmjmhhklkjaaW1
import Derived.Test.YtifkmjmhhklkjaaR0
import Derived.Test.YtifkmjmhhklkjaaM2
import Derived.Laws.AppendOwn
import Derived.OwnWalk
import Derived.WalkKit
namespace Go.Proofs.Ytifkmjmhhklkjaa
open Go Go.RowKit

def cellsF (L : List Fm) : List Value := L.flatMap fun f => [.int .i64 f.a, .int .i64 f.b, .int .i64 f.c]
theorem cellsF_append (L K : List Fm) : cellsF (L ++ K) = cellsF L ++ cellsF K := by simp [cellsF]
theorem cellsF_len (L : List Fm) : (cellsF L).length = 3 * L.length := by
  induction L with
  | nil => rfl
  | cons f L ih => simp [cellsF] at *; omega
theorem cellsF_get : ∀ (L : List Fm) (i : Nat) (h : i < L.length), (cellsF L)[3 * i]? = some (.int .i64 L[i].a) ∧ (cellsF L)[3 * i + 1]? = some (.int .i64 L[i].b) ∧ (cellsF L)[3 * i + 2]? = some (.int .i64 L[i].c)
  | f :: L, 0, _ => by simp [cellsF]
  | f :: L, i + 1, h => by
    have ih := cellsF_get L i (by simpa using h)
    have e : cellsF (f :: L) = .int .i64 f.a :: .int .i64 f.b :: .int .i64 f.c :: cellsF L := by simp [cellsF]
    rw [e, show 3 * (i + 1) = 3 * i + 3 by omega]
    simpa using ih

section
variable {w w' : World} {B : Nat} {e : TypeId} {sz : Nat} {v : Value} {n : Nat} {xs : List Value}
theorem own_call (hb : Below w.heap.size w w') (h : w.ownsRow B e sz v n xs) : w'.ownsRow B e sz v n xs := by
  refine ⟨h.1, ?_⟩
  rcases h.2 with hn | ⟨g, cap, cur, hv, hg, hh, r⟩
  · exact .inl hn
  · exact .inr ⟨g, cap, cur, hv, hg, (hb.block g (Array.getElem?_eq_some_iff.1 hh).1).trans hh, r⟩
theorem own_alloc {o : Obj} (h : w.ownsRow B e sz v n xs) : (w.alloc o).ownsRow B e sz v n xs := h.alloc o
theorem own_drew (h : w.ownsRow B e sz v n xs) : w.drew.ownsRow B e sz v n xs := h
theorem own_drewN {k : Nat} (h : w.ownsRow B e sz v n xs) : (w.drewN k).ownsRow B e sz v n xs := h
theorem own_setp {N : Nat} {p : Addr} {u : Value} (hk : ∀ k, v.ownBlock = some k → k < N) (hp : N ≤ p.block) (h : w.ownsRow B e sz v n xs) : (w.setCell p u).ownsRow B e sz v n xs := by
  refine ⟨h.1, ?_⟩
  rcases h.2 with hn | ⟨g, cap, cur, hv, hg, hh, r⟩
  · exact .inl hn
  · refine .inr ⟨g, cap, cur, hv, hg, ?_, r⟩
    have := hk g (by rw [hv]; rfl)
    rw [Below.heap_setCell _ _ _ _ (by omega)]
    exact hh
theorem own_lt (h : w.ownsRow B e sz v n xs) : ∀ k, v.ownBlock = some k → k < w.heap.size := fun k hk => (h.lt k hk).2
theorem own_ge (h : w.ownsRow B e sz v n xs) : ∀ k, v.ownBlock = some k → B ≤ k := fun k hk => (h.lt k hk).1
theorem own_empty (hB : B ≤ w.heap.size) : (w.alloc (.cells #[] e)).ownsRow B e sz (.slice (some ⟨w.heap.size, 0, none⟩) 0 0) 0 [] :=
  World.ownsRow_made w #[] 0 hB (by unfold maxLen; omega) (by simp)
/-- The cells of three values that lie at the beginning of a new block. -/
theorem cells3 {g : Nat} {x y z : Value} {t : TypeId} (h : Blk w g t #[x, y, z]) : ∀ j u, [x, y, z][j]? = some u → w.cell? ((⟨g, 0, none⟩ : Addr).add j) = some u := by
  intro j u hu
  have e : (⟨g, 0, none⟩ : Addr).add j = ⟨g, j, none⟩ := by unfold Addr.add; split <;> simp_all
  rw [e, h.cell j]
  simpa using hu
theorem cells2 {g : Nat} {x y : Value} {t : TypeId} (h : Blk w g t #[x, y]) : ∀ j u, [x, y][j]? = some u → w.cell? ((⟨g, 0, none⟩ : Addr).add j) = some u := by
  intro j u hu
  have e : (⟨g, 0, none⟩ : Addr).add j = ⟨g, j, none⟩ := by unfold Addr.add; split <;> simp_all
  rw [e, h.cell j]
  simpa using hu
theorem cells1 {g : Nat} {x : Value} {t : TypeId} (h : Blk w g t #[x]) : ∀ j u, [x][j]? = some u → w.cell? ((⟨g, 0, none⟩ : Addr).add j) = some u := by
  intro j u hu
  have e : (⟨g, 0, none⟩ : Addr).add j = ⟨g, j, none⟩ := by unfold Addr.add; split <;> simp_all
  rw [e, h.cell j]
  simpa using hu
theorem below_grown {a : World} {row : Option Nat} (hr : ∀ k, row = some k → B ≤ k) (hB : B ≤ w.heap.size) (hg : w.grownBy w' row) (h : Below B a w) : Below B a w' := h.grown hg hB hr
end
theorem own_snoc {w : World} {B : Nat} {e : TypeId} {v : Value} {L K : List Fm} {f : Fm} (hx : K = L ++ [f]) (h : w.ownsRow B e 3 v (L.length + 1) (cellsF L ++ [.int .i64 f.a, .int .i64 f.b, .int .i64 f.c])) :
    w.ownsRow B e 3 v K.length (cellsF K) := by
  subst hx
  rw [List.length_append, cellsF_append]
  exact h
theorem one3 (x y z : Int) : ∀ u ∈ ([.int .i64 x, .int .i64 y, .int .i64 z] : List Value), u.oneCell' = true := by
  intro u hu; simp at hu; rcases hu with rfl | rfl | rfl <;> rfl
theorem one2 (x y : Int) : ∀ u ∈ ([.int .i64 x, .int .i64 y] : List Value), u.oneCell' = true := by
  intro u hu; simp at hu; rcases hu with rfl | rfl <;> rfl
theorem one1 (x : Int) : ∀ u ∈ ([.int .i64 x] : List Value), u.oneCell' = true := by
  intro u hu; simp at hu; subst hu; rfl
end Go.Proofs.Ytifkmjmhhklkjaa
