/- Plain facts: sorted indices of a list of forms; the list has no form twice. -/
import Derived.Test.YtcijjnjgifoipaaK1
import Derived.Test.YtcijjnjgifoipaaN6
namespace Go.Proofs.Ytcijjnjgifoipaa
open Go.RowKit

theorem clsL_nodup (d : Int) : (clsL d).Pairwise (· ≠ ·) := by
  unfold clsL allR allF
  refine List.Pairwise.filter _ ?_
  rw [List.pairwise_flatMap]
  refine ⟨fun i _ => ?_, ?_⟩
  · unfold rowF
    rw [List.pairwise_filterMap]
    refine List.Pairwise.imp ?_ List.pairwise_lt_range
    intro j j' hlt b hb b' hb' he
    have h1 := (cand_some hb).2.1
    have h2 := (cand_some hb').2.1
    rw [he] at h1
    omega
  · refine List.Pairwise.imp ?_ List.pairwise_lt_range
    intro i i' hlt x hx y hy he
    unfold rowF at hx hy
    obtain ⟨j, _, hj⟩ := List.mem_filterMap.1 hx
    obtain ⟨j', _, hj'⟩ := List.mem_filterMap.1 hy
    have h1 := (cand_some hj).1
    have h2 := (cand_some hj').1
    rw [he] at h1
    omega

/-- The first index of f in L, or -1. -/
def gix (L : List Fm) (f : Fm) : Int := if L.any (fun g => fmEq g f) then (L.findIdx fun g => fmEq g f : Nat) else -1
theorem gix_at {L : List Fm} {f : Fm} {k : Nat} (hk : k < L.length) (he : L[k] = f) (hno : ∀ j (h : j < L.length), j < k → L[j] ≠ f) : gix L f = k := by
  have h1 : L.any (fun g => fmEq g f) = true := List.any_eq_true.2 ⟨L[k], List.getElem_mem hk, (fmEq_iff _ _).2 he⟩
  unfold gix
  rw [if_pos h1, (List.findIdx_eq (p := fun g => fmEq g f) hk).2 ⟨(fmEq_iff _ _).2 he, fun j hj => (fmEq_no _ _).2 (hno j (by omega) hj)⟩]
theorem gix_no {L : List Fm} {f : Fm} (hno : ∀ j (h : j < L.length), L[j] ≠ f) : gix L f = -1 := by
  have h1 : L.any (fun g => fmEq g f) = false := by
    rw [List.any_eq_false]
    intro g hg
    obtain ⟨j, h, rfl⟩ := List.getElem_of_mem hg
    rw [(fmEq_no _ _).2 (hno j h)]; simp
  unfold gix
  rw [h1]; rfl
theorem gix_mem {L : List Fm} {f : Fm} (h : f ∈ L) : ∃ n, ∃ h : n < L.length, L[n] = f ∧ gix L f = n := by
  have h1 : L.any (fun g => fmEq g f) = true := List.any_eq_true.2 ⟨f, h, (fmEq_iff _ _).2 rfl⟩
  have h2 : (L.findIdx fun g => fmEq g f) < L.length := List.findIdx_lt_length.2 (List.any_eq_true.1 h1)
  refine ⟨_, h2, (fmEq_iff _ _).1 (List.findIdx_getElem (w := h2)), ?_⟩
  unfold gix; rw [if_pos h1]
theorem gix_nonneg {L : List Fm} {f : Fm} : (decide (0 ≤ gix L f)) = L.any (fun g => fmEq g f) := by
  unfold gix
  cases L.any (fun g => fmEq g f) <;> simp

theorem mem_putI {x n : Int} : ∀ L : List Int, x ∈ putI L n ↔ x ∈ L ∨ x = n
  | [] => by simp [putI]
  | y :: L => by
    unfold putI
    split
    · simp [mem_putI L, or_assoc]
    · split
      · rename_i h; subst h; simp; intro h; exact .inl h
      · simp; constructor
        · rintro (h | h | h) <;> simp [h]
        · rintro ((h | h) | h) <;> simp [h]
theorem sorted_putI {n : Int} : ∀ L : List Int, L.Pairwise (· < ·) → (putI L n).Pairwise (· < ·)
  | [], _ => by simp [putI]
  | y :: L, h => by
    have h1 := List.pairwise_cons.1 h
    unfold putI
    split
    · rename_i hlt
      refine List.pairwise_cons.2 ⟨fun z hz => ?_, sorted_putI L h1.2⟩
      rcases (mem_putI L).1 hz with hz | hz
      · exact h1.1 z hz
      · omega
    · split
      · exact h
      · refine List.pairwise_cons.2 ⟨fun z hz => ?_, h⟩
        rcases List.mem_cons.1 hz with hz | hz
        · omega
        · have := h1.1 z hz; omega
theorem sorted_uniq : ∀ A B : List Int, A.Pairwise (· < ·) → B.Pairwise (· < ·) → (∀ x, x ∈ A ↔ x ∈ B) → A = B
  | [], [], _, _, _ => rfl
  | [], b :: B, _, _, h => absurd ((h b).2 (by simp)) (by simp)
  | a :: A, [], _, _, h => absurd ((h a).1 (by simp)) (by simp)
  | a :: A, b :: B, hA, hB, h => by
    have h1 := List.pairwise_cons.1 hA
    have h2 := List.pairwise_cons.1 hB
    have e : a = b := by
      rcases List.mem_cons.1 ((h a).1 (by simp)) with e | e
      · exact e
      · rcases List.mem_cons.1 ((h b).2 (by simp)) with e' | e'
        · exact e'.symm
        · have := h2.1 a e; have := h1.1 b e'; omega
    subst e
    rw [sorted_uniq A B h1.2 h2.2]
    intro x
    have hx := h x
    simp only [List.mem_cons] at hx
    constructor
    · intro hm
      have := h1.1 x hm
      rcases hx.1 (.inr hm) with e | e
      · omega
      · exact e
    · intro hm
      have := h2.1 x hm
      rcases hx.2 (.inr hm) with e | e
      · omega
      · exact e
/-- The indices of the targets, sorted. -/
def ixs (L T : List Fm) : List Int := T.foldl (fun A t => putI A (gix L t)) []
theorem ixs_snoc (L T : List Fm) (t : Fm) : ixs L (T ++ [t]) = putI (ixs L T) (gix L t) := by simp [ixs]
theorem ixs_fold (L : List Fm) : ∀ (T : List Fm) (A : List Int), A.Pairwise (· < ·) → (T.foldl (fun A t => putI A (gix L t)) A).Pairwise (· < ·) ∧ ∀ x, x ∈ T.foldl (fun A t => putI A (gix L t)) A ↔ x ∈ A ∨ ∃ t ∈ T, x = gix L t
  | [], A, h => ⟨h, by simp⟩
  | t :: T, A, h => by
    obtain ⟨h1, h2⟩ := ixs_fold L T (putI A (gix L t)) (sorted_putI A h)
    refine ⟨h1, fun x => (h2 x).trans ?_⟩
    rw [mem_putI]
    simp [or_assoc]
/-- The forms at some indices. -/
def frm (L : List Fm) (A : List Int) : List Fm := A.map fun i => L.getD i.toNat ⟨0, 0, 0⟩
theorem frm_ixs {L T : List Fm} (hn : L.Pairwise (· ≠ ·)) (hT : ∀ t ∈ T, t ∈ L) : frm L (ixs L T) = L.filter fun f => T.any fun t => fmEq f t := by
  obtain ⟨h1, h2⟩ := ixs_fold L T [] List.Pairwise.nil
  have e : ixs L T = ((List.range L.length).filter fun i => T.any fun t => fmEq (L.getD i ⟨0, 0, 0⟩) t).map Int.ofNat := by
    refine sorted_uniq _ _ h1 ?_ fun x => (h2 x).trans ?_
    · rw [List.pairwise_map]
      refine List.Pairwise.imp ?_ (List.Pairwise.filter _ List.pairwise_lt_range)
      intro a b h; exact Int.ofNat_lt.2 h
    · simp only [List.not_mem_nil, false_or, List.mem_map, List.mem_filter, List.mem_range, List.any_eq_true]
      constructor
      · rintro ⟨t, ht, rfl⟩
        obtain ⟨n, hn1, hn2, hn3⟩ := gix_mem (hT t ht)
        refine ⟨n, ⟨hn1, t, ht, ?_⟩, hn3.symm⟩
        rw [List.getD_eq_getElem?_getD, List.getElem?_eq_getElem hn1, Option.getD_some, hn2]
        exact (fmEq_iff _ _).2 rfl
      · rintro ⟨n, ⟨hn1, t, ht, he⟩, rfl⟩
        rw [List.getD_eq_getElem?_getD, List.getElem?_eq_getElem hn1, Option.getD_some] at he
        refine ⟨t, ht, ?_⟩
        exact (gix_at hn1 ((fmEq_iff _ _).1 he) (fun j hj hlt hje => by
          have := List.pairwise_iff_getElem.1 hn j n hj hn1 hlt
          exact this (hje.trans ((fmEq_iff _ _).1 he).symm))).symm
  unfold frm
  rw [e, List.map_map]
  have e2 : ((fun i : Int => L.getD i.toNat ⟨0, 0, 0⟩) ∘ Int.ofNat) = fun i : Nat => L.getD i ⟨0, 0, 0⟩ := by funext i; simp
  rw [e2]
  have e3 : L = (List.range L.length).map fun i => L.getD i ⟨0, 0, 0⟩ := by
    refine List.ext_getElem (by simp) fun i h3 h4 => ?_
    simp [List.getElem?_eq_getElem h3]
  conv => rhs; rw [e3]
  rw [List.filter_map]
  rfl
theorem ixs_len (L T : List Fm) (n : Nat) : (ixs L (T.take n)).length ≤ n := by
  have : ∀ (T : List Fm) (A : List Int), (T.foldl (fun A t => putI A (gix L t)) A).length ≤ A.length + T.length := by
    intro T
    induction T with
    | nil => intro A; simp
    | cons t T ih =>
      intro A
      have h1 := ih (putI A (gix L t))
      have h2 : ∀ (A : List Int) (x : Int), (putI A x).length ≤ A.length + 1 := by
        intro A x
        induction A with
        | nil => simp [putI]
        | cons y A ih => unfold putI; split <;> (try split) <;> simp <;> omega
      have := h2 A (gix L t)
      simp only [List.foldl_cons, List.length_cons]
      omega
  have h := this (T.take n) []
  unfold ixs
  simp [List.length_take] at h ⊢
  omega
theorem ixs_lt {L T : List Fm} (hT : ∀ t ∈ T, t ∈ L) : ∀ x ∈ ixs L T, 0 ≤ x ∧ x < L.length := by
  intro x hx
  rcases ((ixs_fold L T [] List.Pairwise.nil).2 x).1 hx with h | ⟨t, ht, rfl⟩
  · simp at h
  · obtain ⟨n, h1, _, h3⟩ := gix_mem (hT t ht)
    omega
end Go.Proofs.Ytcijjnjgifoipaa
