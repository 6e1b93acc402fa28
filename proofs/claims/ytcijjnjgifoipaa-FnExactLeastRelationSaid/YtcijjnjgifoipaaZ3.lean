/- Contracts of GeneratedClasses, of the program. -/
import Derived.Test.YtcijjnjgifoipaaZ2
import Derived.Test.YtcijjnjgifoipaaK7
import Derived.Test.YtcijjnjgifoipaaW4
import Derived.Deep.RegionLaw
namespace Go.Proofs.Ytcijjnjgifoipaa
open Go.RowKit Go.Maps

/-- Whether f is a class form of the discriminant d. -/
def okF (d : Int) (f : Fm) : Bool := isCls f.a f.b f.c && decide (disc f = d)
def SgS (d : Int) (zs : List Fm) : Bool := isDisc d && (decide (zs.length ≤ 20) && zs.all (okF d))
/-- The indices of the classes of some forms. -/
noncomputable def gensN (L : List Fm) (zs : List Fm) : List Nat := zs.map fun f => (gix L (red f)).toNat
theorem gensN_len (L zs : List Fm) : (gensN L zs).length = zs.length := by unfold gensN; simp
theorem gensN_take {L zs : List Fm} {k : Nat} (h : k < zs.length) : gensN L (zs.take (k + 1)) = gensN L (zs.take k) ++ [(gix L (red zs[k])).toNat] := by
  unfold gensN
  rw [List.take_succ_eq_append_getElem h, List.map_append]; rfl
theorem okF_cf {d : Int} {f : Fm} (h : okF d f = true) : CF d f (red f) := by
  unfold okF at h
  simp only [Bool.and_eq_true, decide_eq_true_eq] at h
  have := CF.of_cls h.1
  rw [show disc (⟨f.a, f.b, f.c⟩ : Fm) = d from h.2] at this
  exact this
theorem gensN_lt {d : Int} {L zs : List Fm} (hL : clsL d = L) (h : ∀ f ∈ zs, okF d f = true) : ∀ j ∈ gensN L zs, j < L.length := by
  intro j hj
  obtain ⟨f, hf, rfl⟩ := List.mem_map.1 hj
  have hm := (okF_cf (h f hf)).mem
  rw [hL] at hm
  have := gix_bd hm
  omega
/-- What subgroup gives. -/
def RetSg (d : Int) (L zs : List Fm) (w : World) (e : Ending) (w' : World) : Prop :=
  (SgS d zs = false ∧ e = .returned (.tuple #[.pointer none, .slice none 0 0, .bool false]) ∧ Below w.heap.size w w') ∨
  (SgS d zs = true ∧ ∃ G O, e = .returned (.tuple #[.pointer (some ⟨G, 0, none⟩), .slice (some ⟨O, 0, none⟩) L.length L.length, .bool true]) ∧ Grp L w.heap.size G w' ∧ w.heap.size ≤ O ∧
    w'.rowIs O 4 L.length (fun i => .bool (rchB (mulN d L) (gensN L zs) i)) ∧ Below w.heap.size w w')
def SubSt (d : Int) (L zs : List Fm) (w1 : World) (v vi : Value) (wr : World) : Prop :=
  ∃ k : Nat, vi = .int .i64 k ∧ k ≤ zs.length ∧ Hid (∀ f ∈ zs.take k, okF d f = true) ∧ wr.ownsRow w1.heap.size 3 1 v (nats (gensN L (zs.take k))).length (cellsI (nats (gensN L (zs.take k)))) ∧ w1.heap.size < wr.heap.size ∧ Below w1.heap.size w1 wr

end Go.Proofs.Ytcijjnjgifoipaa
