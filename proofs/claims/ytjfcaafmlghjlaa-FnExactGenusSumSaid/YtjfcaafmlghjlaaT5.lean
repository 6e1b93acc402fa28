/- Contracts of ClassesOfOrder, of the program. -/
import Derived.Test.YtjfcaafmlghjlaaTX
import Derived.Test.YtjfcaafmlghjlaaK7
namespace Go.Proofs.Ytjfcaafmlghjlaa
open Go.RowKit Go.Maps

/-- Whether the order of f is n. -/
noncomputable def ordP (d n : Int) (f : Fm) : Bool := decide ((ordF d f : Int) = n)
/-- What ClassesOfOrder gives. -/
def CoL (d n : Int) (L : List Fm) (ok : Bool) : Prop :=
  (isDisc d = false ∧ L = [] ∧ ok = false) ∨ (isDisc d = true ∧ n < 1 ∧ L = [] ∧ ok = false) ∨ (isDisc d = true ∧ 1 ≤ n ∧ L = (clsL d).filter (ordP d n) ∧ ok = true)
theorem coL_ex (d n : Int) : ∃ L ok, CoL d n L ok ∧ L.length ≤ 100000 := by
  cases hc : isDisc d with
  | false => exact ⟨_, _, .inl ⟨hc, rfl, rfl⟩, by simp⟩
  | true =>
    by_cases hn : n < 1
    · exact ⟨_, _, .inr (.inl ⟨hc, hn, rfl, rfl⟩), by simp⟩
    · exact ⟨_, _, .inr (.inr ⟨hc, by omega, rfl, rfl⟩), Nat.le_trans (List.length_filter_le _ _) (Nat.le_trans (clsL_len _) (by decide))⟩
theorem ordsL_get {d : Int} {L : List Fm} {k : Nat} (h : k < L.length) : ∃ h2 : k < (ordsL d L).length, (ordsL d L)[k] = (ordF d L[k] : Int) := by
  refine ⟨by rw [ordsL_len]; exact h, ?_⟩
  unfold ordsL; simp
/-- The element k of the list of orders. -/
theorem own_elemO {w : World} {B : Nat} {e : TypeId} {d : Int} {L : List Fm} {base : Option Addr} {cap : Nat} (h : w.ownsRow B e 1 (.slice base L.length cap) L.length (cellsI (ordsL d L))) {k : Nat} (hk : k < L.length) :
    ∃ g, base = some ⟨g, 0, none⟩ ∧ g < w.heap.size ∧ w.cell? ⟨g, k, none⟩ = some (.int .i64 (ordF d L[k] : Int)) := by
  obtain ⟨h2, he⟩ := ordsL_get (d := d) hk
  obtain ⟨g, e1, e2, e3⟩ := own_elemI (n := L.length) (L := ordsL d L) (by rw [ordsL_len]; exact h) h2
  rw [he] at e3
  exact ⟨g, e1, e2, e3⟩
def CooSt (p : Fm → Bool) (d : Int) (L : List Fm) (B2 N0 : Nat) (vo : Value) (w1 : World) (v vi : Value) (wr : World) : Prop :=
  ∃ k : Nat, vi = .int .i64 k ∧ k ≤ L.length ∧ wr.ownsRow N0 35 3 v ((L.take k).filter p).length (cellsF ((L.take k).filter p)) ∧ wr.ownsRow B2 3 1 vo L.length (cellsI (ordsL d L)) ∧ Apart v vo ∧ N0 ≤ wr.heap.size ∧ Below N0 w1 wr

end Go.Proofs.Ytjfcaafmlghjlaa
