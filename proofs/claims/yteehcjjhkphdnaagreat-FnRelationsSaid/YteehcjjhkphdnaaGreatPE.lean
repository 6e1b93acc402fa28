/- Contracts of RelationSize, of the reference. -/
import Derived.Test.YteehcjjhkphdnaaGreatPD
import Derived.Test.YteehcjjhkphdnaaGreatK9
import Derived.Test.YteehcjjhkphdnaaGreatSX
import Derived.Deep.DeepCutAuto
import Derived.Deep.CutRange
namespace Go.Proofs.YteehcjjhkphdnaaGreat
open Go.RowKit Go.Maps

theorem own_oneF2 {w : World} {B : Nat} {e : TypeId} {f : Fm} (hB : B ≤ w.heap.size) : (w.alloc (.cells #[.int .i64 f.a, .int .i64 f.b, .int .i64 f.c] e)).ownsRow B e 3 (.slice (some ⟨w.heap.size, 0, none⟩) 1 1) [f].length (cellsF [f]) :=
  ⟨rfl, .inr ⟨w.heap.size, 1, #[.int .i64 f.a, .int .i64 f.b, .int .i64 f.c], rfl, hB, heap_alloc_new w _, Nat.le_refl _, by unfold maxLen; omega, rfl, rfl⟩⟩
/-- The forms at some indices. -/
def atL (L : List Fm) (l : List Nat) : List Fm := l.map fun x => L.getD x ⟨0, 0, 0⟩
theorem atL_len (L : List Fm) (l : List Nat) : (atL L l).length = l.length := by simp [atL]
theorem atL_snoc (L : List Fm) (l : List Nat) (p : Nat) : atL L (l ++ [p]) = atL L l ++ [L.getD p ⟨0, 0, 0⟩] := by simp [atL]
theorem atL_has {L : List Fm} {l : List Nat} {p : Nat} (hn : L.Pairwise (· ≠ ·)) (hl : ∀ x ∈ l, x < L.length) (hp : p < L.length) : hasF (atL L l) (L.getD p ⟨0, 0, 0⟩) = decide (p ∈ l) := by
  by_cases h : p ∈ l
  · rw [decide_eq_true h]
    exact hasF_yes (List.mem_map.2 ⟨p, h, rfl⟩)
  · rw [decide_eq_false h]
    refine hasF_no fun j hj he => ?_
    rw [atL_len] at hj
    have hx := hl l[j] (List.getElem_mem hj)
    simp only [atL, List.getElem_map] at he
    rw [getD_at hx, getD_at hp] at he
    have hne : l[j] ≠ p := fun e => h (e ▸ List.getElem_mem hj)
    rw [List.pairwise_iff_getElem] at hn
    rcases Nat.lt_or_gt_of_ne hne with hlt | hlt
    · exact hn _ _ hx hp hlt he
    · exact hn _ _ hp hx hlt he.symm
theorem mem_snoc_fun (l : List Nat) (p : Nat) : (fun i => if i = p then true else decide (i ∈ l)) = fun i => decide (i ∈ l ++ [p]) := by
  funext i
  by_cases e : i = p <;> simp [e]
/-- The line at the end is as long as the number of marks. -/
theorem Brd.count {mul : Nat → Nat → Nat} {J : List Nat} {m : Nat} {l : List Nat} {F : Nat → Bool} (h : Brd mul J m l F) (h0 : 0 < m) (hm : ∀ i j, i < m → j < m → mul i j < m) (hJ : ∀ j ∈ J, j < m) (hc : ∀ t (ht : t < l.length), ∀ j ∈ J, F (mul l[t] j) = true) :
    l.length = cB (rchB mul J) m := by
  have hd := h.done h0 hm hJ hc
  unfold cB
  refine Ab.len_eq h.nd (List.Pairwise.filter _ (List.pairwise_lt_range.imp Nat.ne_of_lt)) (fun x hx => ?_) (fun x hx => ?_)
  · obtain ⟨a, b, _⟩ := h.ok x hx
    exact List.mem_filter.2 ⟨List.mem_range.2 a, by rw [← hd x a]; exact b⟩
  · obtain ⟨a, b⟩ := List.mem_filter.1 hx
    have a' := List.mem_range.1 a
    exact h.all x a' (by rw [hd x a']; exact b)
def EzSt (mul : Nat → Nat → Nat) (J : List Nat) (L : List Fm) (w2 : World) (v vi : Value) (wr : World) : Prop :=
  ∃ (i : Nat) (l : List Nat), vi = .int .i64 i ∧ i ≤ l.length ∧ Hid (Brd mul J L.length l (fun x => decide (x ∈ l))) ∧ Hid (∀ t y, l[t]? = some y → t < i → ∀ j ∈ J, mul y j ∈ l) ∧ wr.ownsRow w2.heap.size 36 3 v (atL L l).length (cellsF (atL L l)) ∧ Below w2.heap.size w2 wr
def EzIn (mul : Nat → Nat → Nat) (J : List Nat) (L : List Fm) (i x : Nat) (w2 : World) (v vq : Value) (wr : World) : Prop :=
  ∃ (q : Nat) (l : List Nat), vq = .int .i64 q ∧ q ≤ J.length ∧ l[i]? = some x ∧ Hid (Brd mul J L.length l (fun x => decide (x ∈ l))) ∧ Hid (∀ t y, l[t]? = some y → t < i → ∀ j ∈ J, mul y j ∈ l) ∧ Hid (∀ s (h : s < J.length), s < q → mul x J[s] ∈ l) ∧ wr.ownsRow w2.heap.size 36 3 v (atL L l).length (cellsF (atL L l)) ∧ Below w2.heap.size w2 wr

end Go.Proofs.YteehcjjhkphdnaaGreat
