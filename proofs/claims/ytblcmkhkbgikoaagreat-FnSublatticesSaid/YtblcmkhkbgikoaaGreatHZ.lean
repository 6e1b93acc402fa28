/- A swap of two points within an owned row. -/
import Derived.Test.YtblcmkhkbgikoaaGreatHY
import Derived.Test.YtblcmkhkbgikoaaGreatAN
import Derived.Lib.ReflectliteSwap
namespace Go.Proofs.YtblcmkhkbgikoaaGreat
open Go.RowKit Go

theorem cellsP_set : ∀ (K : List (Int × Int)) (i : Nat) (p : Int × Int), ((cellsP K).set (i * 2) (.int .i64 p.1)).set (i * 2 + 1) (.int .i64 p.2) = cellsP (K.set i p)
  | [], i, p => by simp [cellsP]
  | q :: K, 0, p => by simp [cellsP]
  | q :: K, i + 1, p => by
    rw [List.set_cons_succ, cellsP_cons, cellsP_cons, show (i + 1) * 2 = i * 2 + 1 + 1 by omega, List.set_cons_succ, List.set_cons_succ, List.set_cons_succ, List.set_cons_succ, cellsP_set K i p]
theorem setCells_two (w : World) (g o : Nat) (u v : Value) : w.setCells g o [u, v] = (w.setCell ⟨g, o, none⟩ u).setCell ⟨g, o + 1, none⟩ v := rfl
theorem own_set2 {w : World} {B g cap i : Nat} {e : TypeId} {K : List (Int × Int)} (h : w.ownsRow B e 2 (.slice (some ⟨g, 0, none⟩) K.length cap) K.length (cellsP K)) (p : Int × Int) :
    (w.setCells g (i * 2) [.int .i64 p.1, .int .i64 p.2]).ownsRow B e 2 (.slice (some ⟨g, 0, none⟩) K.length cap) K.length (cellsP (K.set i p)) := by
  rw [setCells_two, ← cellsP_set]
  exact own_put (own_put h _) _
theorem own_swapP {w : World} {B g cap i j : Nat} {e : TypeId} {K : List (Int × Int)} (h : w.ownsRow B e 2 (.slice (some ⟨g, 0, none⟩) K.length cap) K.length (cellsP K)) (p q : Int × Int) :
    ((w.setCells g (i * 2) [.int .i64 q.1, .int .i64 q.2]).setCells g (j * 2) [.int .i64 p.1, .int .i64 p.2]).ownsRow B e 2 (.slice (some ⟨g, 0, none⟩) K.length cap) K.length (cellsP ((K.set i q).set j p)) := by
  have h1 := own_set2 (i := i) h q
  have e1 : (K.set i q).length = K.length := List.length_set
  have h2 : ((w.setCells g (i * 2) [.int .i64 q.1, .int .i64 q.2])).ownsRow B e 2 (.slice (some ⟨g, 0, none⟩) (K.set i q).length cap) (K.set i q).length (cellsP (K.set i q)) := by rw [e1]; exact h1
  have h3 := own_set2 (i := j) h2 p
  rw [e1] at h3
  exact h3
/-- A swap keeps the members. -/
theorem swap_perm {K : List (Int × Int)} {i j : Nat} (hi : i < K.length) (hj : j < K.length) : ((K.set i K[j]).set j K[i]).Perm K := by
  have := List.set_set_perm hi hj
  exact this
end Go.Proofs.YtblcmkhkbgikoaaGreat
