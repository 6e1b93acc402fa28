/- Contracts of the reference: the forms at some indices, the powers of classes. -/
import Derived.Test.YtcijjnjgifoipaaK4
import Derived.Test.YtcijjnjgifoipaaK2
namespace Go.Proofs.Ytcijjnjgifoipaa
open Go.RowKit

theorem frm_next {L : List Fm} {A : List Int} {k : Nat} (h : k < A.length) {n : Nat} (hn : n < L.length) (hx : A[k] = n) : frm L (A.take (k + 1)) = frm L (A.take k) ++ [L[n]] := by
  unfold frm
  rw [List.take_succ_eq_append_getElem h, List.map_append, hx]
  simp [List.getElem?_eq_getElem hn]
theorem apart_of {w w2 : World} {B B2 : Nat} {e e2 : TypeId} {sz n sz2 n2 : Nat} {v vl : Value} {xs xs2 : List Value} (h : w.ownsRow B e sz vl n xs) (h2 : w2.ownsRow B2 e2 sz2 v n2 xs2) (hB : w.heap.size ≤ B2) : Apart v vl := by
  unfold Apart
  cases h3 : vl.ownBlock with
  | none => exact .inl rfl
  | some b =>
    have k1 := (h.lt b h3).2
    refine .inr (fun he => ?_)
    have k2 := (h2.lt b he.symm).1
    omega
def FrSt (L : List Fm) (A : List Int) (B B2 : Nat) (vl va : Value) (w : World) (v vi : Value) (wr : World) : Prop :=
  ∃ k : Nat, vi = .int .i64 k ∧ k ≤ A.length ∧ wr.ownsRow w.heap.size 32 3 v (frm L (A.take k)).length (cellsF (frm L (A.take k))) ∧ wr.ownsRow B 32 3 vl L.length (cellsF L) ∧
    wr.ownsRow B2 3 1 va A.length (cellsI A) ∧ Apart v vl ∧ Apart v va ∧ Below w.heap.size w wr

end Go.Proofs.Ytcijjnjgifoipaa
