/- Parts T2 T3 T4 laid together by tp.py. -/
import Derived.Test.YtjfcaafmlghjlaaKT
import Derived.Test.YtjfcaafmlghjlaaK2
import Derived.Maps.OwnOps
import Derived.Test.YtjfcaafmlghjlaaW4
import Derived.Test.YtjfcaafmlghjlaaN5
namespace Go.Proofs.Ytjfcaafmlghjlaa
section
open Go.RowKit Go.Maps

theorem zeroInt_T (w : World) : (zeroValue 3).run Try.prog w = .ok (.int .i64 0) w := by kernel_rfl
/-- The map tells the index of each of the first k forms. -/
def IdxM (D : DataW Unit) (L : List Fm) (k : Nat) : Prop := IsMap D ∧ ∀ i (h : i < L.length), i < k → D.atKey (klF L[i]) (.lit (.int .i64 0)) = .lit (.int .i64 i)
theorem IdxM.made (L : List Fm) : IdxM (.map []) L 0 := ⟨isMap_empty, fun _ _ h => absurd h (Nat.not_lt_zero _)⟩
set_option maxRecDepth 100000 in
theorem IdxM.put {D : DataW Unit} {L : List Fm} {k : Nat} (h : IdxM D L k) (hn : L.Pairwise (· ≠ ·)) (hw : ∀ f ∈ L, WfF f) (hk : k < L.length) : IdxM (D.put (klF L[k]) (.lit (.int .i64 k))) L (k + 1) := by
  refine ⟨h.1.put _ _, fun i hi hik => ?_⟩
  by_cases e : i = k
  · subst e
    exact atKey_put_same h.1 (isKey_klF (hw _ (List.getElem_mem _))) _ _
  · have e2 : klF L[i] ≠ klF L[k] := fun he =>
      List.pairwise_iff_getElem.1 hn i k hi hk (by omega) (klF_inj (hw _ (List.getElem_mem _)) (hw _ (List.getElem_mem _)) he)
    exact (atKey_put_other e2 _ _).trans (h.2 i hi (by omega))

end

section
open Go.RowKit Go.Maps

end

section
open Go.RowKit Go.Maps

def lenV : Value → Nat
  | .slice _ n _ => n
  | _ => 0
theorem own_one {w : World} {B : Nat} {e : TypeId} {u : Value} (hB : B ≤ w.heap.size) : (w.alloc (.cells #[u] e)).ownsRow B e 1 (.slice (some ⟨w.heap.size, 0, none⟩) 1 1) 1 [u] :=
  ⟨rfl, .inr ⟨w.heap.size, 1, #[u], rfl, hB, heap_alloc_new w _, Nat.le_refl _, by unfold maxLen; omega, rfl, rfl⟩⟩
theorem pwI_one {d : Int} {L : List Fm} (hD : Dsc d) (hL : clsL d = L) (f : Fm) : pwI d L f 1 = [0] := by
  have := gix_one hD
  rw [hL] at this
  unfold pwI
  simp [List.range_succ, pw, this]
/-- The state of the loop of the powers. -/
def PowSt (d : Int) (L : List Fm) (f : Fm) (N : Nat) (w : World) (v vp : Value) (wr : World) : Prop :=
  ∃ n : Nat, 1 ≤ n ∧ n ≤ N ∧ vp = .int .i64 (gix L (pw d f n)) ∧ lenV v = n ∧ wr.ownsRow w.heap.size 3 1 v (pwI d L f n).length (cellsI (pwI d L f n)) ∧ Below w.heap.size w wr

/-- The state of the loop of the orders. -/
def OrsSt (d : Int) (L : List Fm) (w : World) (v vi : Value) (wr : World) : Prop :=
  ∃ k : Nat, vi = .int .i64 k ∧ k ≤ L.length ∧ wr.ownsRow w.heap.size 3 1 v (ordsL d (L.take k)).length (cellsI (ordsL d (L.take k))) ∧ Below w.heap.size w wr

end
end Go.Proofs.Ytjfcaafmlghjlaa
