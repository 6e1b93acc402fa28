/- Contracts of the reference: the powers of classes. -/
import Derived.Test.YtcijjnjgifoipaaK5
namespace Go.Proofs.Ytcijjnjgifoipaa
open Go.RowKit

theorem pows_next {d : Int} {n k : Nat} {L : List Fm} (h : k < L.length) : ixs L ((L.take (k + 1)).map fun g => pw d g n) = putI (ixs L ((L.take k).map fun g => pw d g n)) (gix L (pw d L[k] n)) := by
  rw [List.take_succ_eq_append_getElem h, List.map_append, ← ixs_snoc]; rfl
theorem pows_len {d : Int} {n k : Nat} {L : List Fm} (h : L.length ≤ 100000) : (ixs L ((L.take k).map fun g => pw d g n)).length ≤ 100000 := by
  have := ixs_len L ((L.take k).map fun g => pw d g n) 100000
  rw [List.take_of_length_le (by rw [List.length_map, List.length_take]; omega)] at this
  exact this
theorem pows_all {d : Int} {n : Nat} (D : Dsc d) : frm (clsL d) (ixs (clsL d) ((clsL d).map fun g => pw d g n)) = (clsL d).filter (powP d n (clsL d)) := by
  rw [frm_ixs (clsL_nodup d) (by intro t ht; obtain ⟨g, hg, rfl⟩ := List.mem_map.1 ht; exact D.pwm hg n)]
  congr 1
  funext f
  unfold powP
  rw [List.any_map]; rfl
def GpSt (d : Int) (n : Nat) (L : List Fm) (B N0 : Nat) (vl : Value) (w : World) (v vi : Value) (wr : World) : Prop :=
  ∃ k : Nat, vi = .int .i64 k ∧ k ≤ L.length ∧ wr.ownsRow N0 3 1 v (ixs L ((L.take k).map fun g => pw d g n)).length (cellsI (ixs L ((L.take k).map fun g => pw d g n))) ∧
    wr.ownsRow B 32 3 vl L.length (cellsF L) ∧ N0 ≤ wr.heap.size ∧ Below w.heap.size w wr

end Go.Proofs.Ytcijjnjgifoipaa
