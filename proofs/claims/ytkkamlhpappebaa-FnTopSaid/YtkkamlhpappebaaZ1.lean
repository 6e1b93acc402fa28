/- Plain facts: what some elements of a finite set with a multiplication generate. -/
import Derived.Test.YtkkamlhpappebaaKT
namespace Go.Proofs.Ytkkamlhpappebaa
open Go.RowKit

/-- What the elements of J generate. -/
inductive Rch (mul : Nat → Nat → Nat) (J : List Nat) : Nat → Prop
  | zero : Rch mul J 0
  | step {i j : Nat} : Rch mul J i → j ∈ J → Rch mul J (mul i j)
open Classical in
noncomputable def rchB (mul : Nat → Nat → Nat) (J : List Nat) (i : Nat) : Bool := decide (Rch mul J i)
theorem rchB_iff {mul : Nat → Nat → Nat} {J : List Nat} {i : Nat} : rchB mul J i = true ↔ Rch mul J i := @decide_eq_true_iff _ (Classical.propDecidable _)
noncomputable def spanL (mul : Nat → Nat → Nat) (J : List Nat) (m : Nat) : List Nat := (List.range m).filter (rchB mul J)
def nats (l : List Nat) : List Int := l.map Int.ofNat
theorem nats_len (l : List Nat) : (nats l).length = l.length := by unfold nats; simp
theorem nats_get (l : List Nat) {i : Nat} (h : i < l.length) : ∃ h2 : i < (nats l).length, (nats l)[i] = (l[i] : Int) := ⟨by rw [nats_len]; exact h, by unfold nats; simp⟩
theorem nats_snoc (l : List Nat) (x : Nat) : nats (l ++ [x]) = nats l ++ [(x : Int)] := by unfold nats; simp
variable {mul : Nat → Nat → Nat} {J : List Nat} {m : Nat}
theorem Rch.lt (h0 : 0 < m) (hm : ∀ i j, i < m → j < m → mul i j < m) (hJ : ∀ j ∈ J, j < m) {i : Nat} (h : Rch mul J i) : i < m := by
  induction h with
  | zero => exact h0
  | step _ hj ih => exact hm _ _ ih (hJ _ hj)
/-- A closed set has all that is generated. -/
theorem Rch.of_closed {F : Nat → Prop} (h0 : F 0) (hc : ∀ i, F i → ∀ j ∈ J, F (mul i j)) {i : Nat} (h : Rch mul J i) : F i := by
  induction h with
  | zero => exact h0
  | step _ hj ih => exact hc _ ih _ hj
theorem spanL_sorted : (nats (spanL mul J m)).Pairwise (· < ·) := by
  unfold nats spanL
  rw [List.pairwise_map]
  exact List.Pairwise.imp (fun h => Int.ofNat_lt.2 h) (List.Pairwise.filter _ List.pairwise_lt_range)
/-- A sorted list that is closed and has only generated elements is the list of all of them. -/
theorem span_uniq (h0 : 0 < m) (hm : ∀ i j, i < m → j < m → mul i j < m) (hJ : ∀ j ∈ J, j < m) {A : List Int} (hs : A.Pairwise (· < ·)) (hA : ∀ x ∈ A, ∃ i : Nat, x = i ∧ Rch mul J i) (hz : (0 : Int) ∈ A)
    (hc : ∀ i : Nat, (i : Int) ∈ A → ∀ j ∈ J, ((mul i j : Nat) : Int) ∈ A) : A = nats (spanL mul J m) := by
  refine sorted_uniq A _ hs spanL_sorted fun x => ?_
  constructor
  · intro hx
    obtain ⟨i, rfl, hi⟩ := hA x hx
    exact List.mem_map.2 ⟨i, List.mem_filter.2 ⟨List.mem_range.2 (hi.lt h0 hm hJ), rchB_iff.2 hi⟩, rfl⟩
  · intro hx
    obtain ⟨i, hi, rfl⟩ := List.mem_map.1 hx
    exact Rch.of_closed (F := fun i => (i : Int) ∈ A) hz hc (rchB_iff.1 (List.mem_filter.1 hi).2)

/-- The state of the search: the line and the marks. -/
structure Brd (mul : Nat → Nat → Nat) (J : List Nat) (m : Nat) (l : List Nat) (F : Nat → Bool) : Prop where
  ok : ∀ x ∈ l, x < m ∧ F x = true ∧ Rch mul J x
  all : ∀ x, x < m → F x = true → x ∈ l
  nd : l.Nodup
  z : 0 ∈ l
theorem Brd.len {l : List Nat} {F : Nat → Bool} (h : Brd mul J m l F) : l.length ≤ m := by
  have := h.nd.length_le_of_subset (l₂ := List.range m) (fun x hx => List.mem_range.2 (h.ok x hx).1)
  simpa using this
theorem Brd.start (h0 : 0 < m) : Brd mul J m [0] (fun i => decide (i = 0)) :=
  ⟨by intro x hx; simp at hx; subst hx; exact ⟨h0, by simp, .zero⟩, by intro x _ hx; simpa using hx, by simp, by simp⟩
theorem Brd.add {l : List Nat} {F : Nat → Bool} (h : Brd mul J m l F) {p : Nat} (hp : p < m) (hn : F p = false) (hr : Rch mul J p) : Brd mul J m (l ++ [p]) (fun i => if i = p then true else F i) := by
  refine ⟨?_, ?_, ?_, List.mem_append_left _ h.z⟩
  · intro x hx
    rcases List.mem_append.1 hx with hx | hx
    · obtain ⟨a, b, c⟩ := h.ok x hx
      exact ⟨a, by simp only [b]; simp, c⟩
    · simp at hx; subst hx
      exact ⟨hp, by simp, hr⟩
  · intro x hx hF
    by_cases e : x = p
    · subst e; simp
    · simp only [if_neg e] at hF
      exact List.mem_append_left _ (h.all x hx hF)
  · rw [List.nodup_append]
    refine ⟨h.nd, by simp, fun a ha b hb => ?_⟩
    simp at hb; subst hb
    intro e; subst e
    have := (h.ok _ ha).2.1
    rw [hn] at this; cases this
/-- The marks at the end. -/
theorem Brd.done {l : List Nat} {F : Nat → Bool} (h : Brd mul J m l F) (h0 : 0 < m) (hm : ∀ i j, i < m → j < m → mul i j < m) (hJ : ∀ j ∈ J, j < m) (hc : ∀ t (ht : t < l.length), ∀ j ∈ J, F (mul l[t] j) = true) :
    ∀ i, i < m → F i = rchB mul J i := by
  intro i hi
  rw [Bool.eq_iff_iff, rchB_iff]
  constructor
  · intro hF; exact (h.ok i (h.all i hi hF)).2.2
  · intro hr
    have : i < m ∧ F i = true := Rch.of_closed (F := fun i => i < m ∧ F i = true) ⟨h0, (h.ok 0 h.z).2.1⟩ (fun i ⟨hi, hF⟩ j hj => by
      obtain ⟨t, ht, rfl⟩ := List.getElem_of_mem (h.all i hi hF)
      exact ⟨hm _ _ hi (hJ j hj), hc t ht j hj⟩) hr
    exact this.2
end Go.Proofs.Ytkkamlhpappebaa
