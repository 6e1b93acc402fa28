/- Words for slices of integers; contracts: the prime factors. -/
import Derived.Test.YtlcegkafagdcjaaGreatDoorNA
import Derived.Test.YtlcegkafagdcjaaGreatDoorGG
namespace Go.Proofs.YtlcegkafagdcjaaGreatDoor
open Go.RowKit

def cellsI (L : List Int) : List Value := L.map (.int .i64)
theorem cellsI_append (L K : List Int) : cellsI (L ++ K) = cellsI L ++ cellsI K := by simp [cellsI]
theorem cellsI_len (L : List Int) : (cellsI L).length = L.length := by simp [cellsI]
theorem cellsI_get (L : List Int) (i : Nat) (h : i < L.length) : (cellsI L)[i]? = some (.int .i64 L[i]) := by simp [cellsI, h]
theorem infoInt : (Tryz.prog.info? 3).map (fun i => (i.zero, i.size, i.bytes)) = some (some (.int .i64 0), 1, 8) := by kernel_rfl
/-- A list of integers in new memory. -/
def OwnI (L : List Int) (w : World) (v : Value) (w' : World) : Prop := w'.ownsRow w.heap.size 3 1 v L.length (cellsI L) ∧ Below w.heap.size w w'
def RetI (L : List Int) (w : World) (e : Ending) (w' : World) : Prop := ∃ v, e = .returned v ∧ OwnI L w v w'
theorem own_snocI {w : World} {B : Nat} {e : TypeId} {v : Value} {L K : List Int} {x : Int} (hx : K = L ++ [x]) (h : w.ownsRow B e 1 v (L.length + 1) (cellsI L ++ [.int .i64 x])) :
    w.ownsRow B e 1 v K.length (cellsI K) := by
  subst hx
  rw [List.length_append, cellsI_append]
  exact h
/-- The element k of an owned list of integers. -/
theorem own_elemI {w : World} {B : Nat} {e : TypeId} {base : Option Addr} {n cap : Nat} {L : List Int} (h : w.ownsRow B e 1 (.slice base n cap) L.length (cellsI L)) {k : Nat} (hk : k < L.length) :
    ∃ g, base = some ⟨g, 0, none⟩ ∧ g < w.heap.size ∧ w.cell? ⟨g, k, none⟩ = some (.int .i64 L[k]) := by
  rcases own_form h with ⟨hv, h0⟩ | ⟨g, c, hv, h1, h2, h3⟩
  · omega
  · injection hv with e1 e2 e3
    exact ⟨g, e1, h2, h3 _ _ (cellsI_get L k hk)⟩

end Go.Proofs.YtlcegkafagdcjaaGreatDoor
