/- Parts R4 R5 R6 laid together by tp.py. -/
import Derived.Test.YtbecjnmifdbnjaaKX
import Derived.Test.YtbecjnmifdbnjaaK7
import Derived.Test.YtbecjnmifdbnjaaK9
import Derived.Test.YtbecjnmifdbnjaaK2
import Derived.Test.YtbecjnmifdbnjaaW4
import Derived.Deep.RegionLaw
import Derived.Test.YtbecjnmifdbnjaaTZ
namespace Go.Proofs.Ytbecjnmifdbnjaa
section
open Go.RowKit

theorem fmEq_comm (f g : Fm) : fmEq f g = fmEq g f := by
  rw [Bool.eq_iff_iff, fmEq_iff, fmEq_iff]
  exact ⟨fun h => h.symm, fun h => h.symm⟩
/-- The composites of r with the forms of S. -/
noncomputable def cosT (d : Int) (r : Fm) (S : List Fm) : List Fm := S.map fun g => cmp d r g
theorem cosT_next {d : Int} {r : Fm} {S : List Fm} {k : Nat} (h : k < S.length) : cosT d r (S.take (k + 1)) = cosT d r (S.take k) ++ [cmp d r S[k]] := by
  unfold cosT
  rw [List.take_succ_eq_append_getElem h, List.map_append]; rfl
theorem cosT_len (d : Int) (r : Fm) (S : List Fm) : (cosT d r S).length = S.length := by unfold cosT; simp
theorem cosT_all {d : Int} {r : Fm} {S : List Fm} (D : Dsc d) (hr : r ∈ clsL d) (hS : ∀ g ∈ S, g ∈ clsL d) : frm (clsL d) (ixs (clsL d) (cosT d r S)) = (clsL d).filter (hasF (cosT d r S)) := by
  rw [frm_ixs (clsL_nodup d) (by intro t ht; obtain ⟨g, hg, rfl⟩ := List.mem_map.1 ht; exact D.cmpm hr (hS g hg))]
  congr 1
  funext f
  unfold hasF
  congr 1
  funext t
  exact fmEq_comm f t
theorem ixs_len2 (L T : List Fm) : (ixs L T).length ≤ T.length := by
  have := ixs_len L T T.length
  rwa [List.take_length] at this
/-- The state of the reference's loop. -/
def GcSt (d : Int) (r : Fm) (L S : List Fm) (w3 : World) (v vi : Value) (wr : World) : Prop :=
  ∃ k : Nat, vi = .int .i64 k ∧ k ≤ S.length ∧ wr.ownsRow w3.heap.size 3 1 v (ixs L (cosT d r (S.take k))).length (cellsI (ixs L (cosT d r (S.take k)))) ∧ Below w3.heap.size w3 wr

/-- What SquareCoset gives. -/
def ScL (a b c : Int) (L : List Fm) (ok : Bool) : Prop :=
  (isCls a b c = false ∧ L = [] ∧ ok = false) ∨
  (isCls a b c = true ∧ L = (clsL (disc ⟨a, b, c⟩)).filter (hasF (cosT (disc ⟨a, b, c⟩) (red ⟨a, b, c⟩) ((clsL (disc ⟨a, b, c⟩)).filter (powP (disc ⟨a, b, c⟩) 2 (clsL (disc ⟨a, b, c⟩)))))) ∧ ok = true)
theorem scL_ex (a b c : Int) : ∃ L ok, ScL a b c L ok ∧ L.length ≤ 100000 := by
  cases hc : isCls a b c with
  | false => exact ⟨_, _, .inl ⟨hc, rfl, rfl⟩, by simp⟩
  | true => exact ⟨_, _, .inr ⟨hc, rfl, rfl⟩, Nat.le_trans (List.length_filter_le _ _) (Nat.le_trans (clsL_len _) (by decide))⟩

end

section
open Go.RowKit

end

section
open Go.RowKit

def ScSt (d : Int) (r : Fm) (S : List Fm) (C B2 : Nat) (vs : Value) (v1 : World) (vi : Value) (wr : World) : Prop :=
  ∃ (k : Nat) (vc : Value), vi = .int .i64 k ∧ k ≤ S.length ∧ Hid (Blk wr C 80 #[vc]) ∧ wr.ownsRow v1.heap.size 35 3 vc (cosT d r (S.take k)).length (cellsF (cosT d r (S.take k))) ∧ (∀ q, vc.ownBlock = some q → q ≠ C) ∧
    wr.ownsRow B2 35 3 vs S.length (cellsF S) ∧ Apart vc vs ∧ Below v1.heap.size v1 wr

end
end Go.Proofs.Ytbecjnmifdbnjaa
