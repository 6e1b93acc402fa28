/- Parts K3 T1 laid together by tp.py. -/
import Derived.Test.YtdhennlanngjgaaKV
import Derived.Test.YtdhennlanngjgaaN6
namespace Go.Proofs.Ytdhennlanngjgaa
section
open Go.RowKit

theorem clsL_nodup (d : Int) : (clsL d).Pairwise (· ≠ ·) := by
  unfold clsL allR allF
  refine List.Pairwise.filter _ ?_
  rw [List.pairwise_flatMap]
  refine ⟨fun i _ => ?_, ?_⟩
  · unfold rowF
    rw [List.pairwise_filterMap]
    refine List.Pairwise.imp ?_ List.pairwise_lt_range
    intro j j' hlt b hb b' hb' he
    have h1 := (cand_some hb).2.1
    have h2 := (cand_some hb').2.1
    rw [he] at h1
    omega
  · refine List.Pairwise.imp ?_ List.pairwise_lt_range
    intro i i' hlt x hx y hy he
    unfold rowF at hx hy
    obtain ⟨j, _, hj⟩ := List.mem_filterMap.1 hx
    obtain ⟨j', _, hj'⟩ := List.mem_filterMap.1 hy
    have h1 := (cand_some hj).1
    have h2 := (cand_some hj').1
    rw [he] at h1
    omega

/-- The first index of f in L, or -1. -/
def gix (L : List Fm) (f : Fm) : Int := if L.any (fun g => fmEq g f) then (L.findIdx fun g => fmEq g f : Nat) else -1
theorem gix_at {L : List Fm} {f : Fm} {k : Nat} (hk : k < L.length) (he : L[k] = f) (hno : ∀ j (h : j < L.length), j < k → L[j] ≠ f) : gix L f = k := by
  have h1 : L.any (fun g => fmEq g f) = true := List.any_eq_true.2 ⟨L[k], List.getElem_mem hk, (fmEq_iff _ _).2 he⟩
  unfold gix
  rw [if_pos h1, (List.findIdx_eq (p := fun g => fmEq g f) hk).2 ⟨(fmEq_iff _ _).2 he, fun j hj => (fmEq_no _ _).2 (hno j (by omega) hj)⟩]
theorem gix_no {L : List Fm} {f : Fm} (hno : ∀ j (h : j < L.length), L[j] ≠ f) : gix L f = -1 := by
  have h1 : L.any (fun g => fmEq g f) = false := by
    rw [List.any_eq_false]
    intro g hg
    obtain ⟨j, h, rfl⟩ := List.getElem_of_mem hg
    rw [(fmEq_no _ _).2 (hno j h)]; simp
  unfold gix
  rw [h1]; rfl
theorem gix_mem {L : List Fm} {f : Fm} (h : f ∈ L) : ∃ n, ∃ h : n < L.length, L[n] = f ∧ gix L f = n := by
  have h1 : L.any (fun g => fmEq g f) = true := List.any_eq_true.2 ⟨f, h, (fmEq_iff _ _).2 rfl⟩
  have h2 : (L.findIdx fun g => fmEq g f) < L.length := List.findIdx_lt_length.2 (List.any_eq_true.1 h1)
  refine ⟨_, h2, (fmEq_iff _ _).1 (List.findIdx_getElem (w := h2)), ?_⟩
  unfold gix; rw [if_pos h1]
theorem gix_nonneg {L : List Fm} {f : Fm} : (decide (0 ≤ gix L f)) = L.any (fun g => fmEq g f) := by
  unfold gix
  cases L.any (fun g => fmEq g f) <;> simp

theorem mem_putI {x n : Int} : ∀ L : List Int, x ∈ putI L n ↔ x ∈ L ∨ x = n
  | [] => by simp [putI]
  | y :: L => by
    unfold putI
    split
    · simp [mem_putI L, or_assoc]
    · split
      · rename_i h; subst h; simp; intro h; exact .inl h
      · simp; constructor
        · rintro (h | h | h) <;> simp [h]
        · rintro ((h | h) | h) <;> simp [h]
theorem sorted_putI {n : Int} : ∀ L : List Int, L.Pairwise (· < ·) → (putI L n).Pairwise (· < ·)
  | [], _ => by simp [putI]
  | y :: L, h => by
    have h1 := List.pairwise_cons.1 h
    unfold putI
    split
    · rename_i hlt
      refine List.pairwise_cons.2 ⟨fun z hz => ?_, sorted_putI L h1.2⟩
      rcases (mem_putI L).1 hz with hz | hz
      · exact h1.1 z hz
      · omega
    · split
      · exact h
      · refine List.pairwise_cons.2 ⟨fun z hz => ?_, h⟩
        rcases List.mem_cons.1 hz with hz | hz
        · omega
        · have := h1.1 z hz; omega
theorem sorted_uniq : ∀ A B : List Int, A.Pairwise (· < ·) → B.Pairwise (· < ·) → (∀ x, x ∈ A ↔ x ∈ B) → A = B
  | [], [], _, _, _ => rfl
  | [], b :: B, _, _, h => absurd ((h b).2 (by simp)) (by simp)
  | a :: A, [], _, _, h => absurd ((h a).1 (by simp)) (by simp)
  | a :: A, b :: B, hA, hB, h => by
    have h1 := List.pairwise_cons.1 hA
    have h2 := List.pairwise_cons.1 hB
    have e : a = b := by
      rcases List.mem_cons.1 ((h a).1 (by simp)) with e | e
      · exact e
      · rcases List.mem_cons.1 ((h b).2 (by simp)) with e' | e'
        · exact e'.symm
        · have := h2.1 a e; have := h1.1 b e'; omega
    subst e
    rw [sorted_uniq A B h1.2 h2.2]
    intro x
    have hx := h x
    simp only [List.mem_cons] at hx
    constructor
    · intro hm
      have := h1.1 x hm
      rcases hx.1 (.inr hm) with e | e
      · omega
      · exact e
    · intro hm
      have := h2.1 x hm
      rcases hx.2 (.inr hm) with e | e
      · omega
      · exact e
/-- The indices of the targets, sorted. -/
def ixs (L T : List Fm) : List Int := T.foldl (fun A t => putI A (gix L t)) []
theorem ixs_snoc (L T : List Fm) (t : Fm) : ixs L (T ++ [t]) = putI (ixs L T) (gix L t) := by simp [ixs]
theorem ixs_fold (L : List Fm) : ∀ (T : List Fm) (A : List Int), A.Pairwise (· < ·) → (T.foldl (fun A t => putI A (gix L t)) A).Pairwise (· < ·) ∧ ∀ x, x ∈ T.foldl (fun A t => putI A (gix L t)) A ↔ x ∈ A ∨ ∃ t ∈ T, x = gix L t
  | [], A, h => ⟨h, by simp⟩
  | t :: T, A, h => by
    obtain ⟨h1, h2⟩ := ixs_fold L T (putI A (gix L t)) (sorted_putI A h)
    refine ⟨h1, fun x => (h2 x).trans ?_⟩
    rw [mem_putI]
    simp [or_assoc]
/-- The forms at some indices. -/
def frm (L : List Fm) (A : List Int) : List Fm := A.map fun i => L.getD i.toNat ⟨0, 0, 0⟩
theorem frm_ixs {L T : List Fm} (hn : L.Pairwise (· ≠ ·)) (hT : ∀ t ∈ T, t ∈ L) : frm L (ixs L T) = L.filter fun f => T.any fun t => fmEq f t := by
  obtain ⟨h1, h2⟩ := ixs_fold L T [] List.Pairwise.nil
  have e : ixs L T = ((List.range L.length).filter fun i => T.any fun t => fmEq (L.getD i ⟨0, 0, 0⟩) t).map Int.ofNat := by
    refine sorted_uniq _ _ h1 ?_ fun x => (h2 x).trans ?_
    · rw [List.pairwise_map]
      refine List.Pairwise.imp ?_ (List.Pairwise.filter _ List.pairwise_lt_range)
      intro a b h; exact Int.ofNat_lt.2 h
    · simp only [List.not_mem_nil, false_or, List.mem_map, List.mem_filter, List.mem_range, List.any_eq_true]
      constructor
      · rintro ⟨t, ht, rfl⟩
        obtain ⟨n, hn1, hn2, hn3⟩ := gix_mem (hT t ht)
        refine ⟨n, ⟨hn1, t, ht, ?_⟩, hn3.symm⟩
        rw [List.getD_eq_getElem?_getD, List.getElem?_eq_getElem hn1, Option.getD_some, hn2]
        exact (fmEq_iff _ _).2 rfl
      · rintro ⟨n, ⟨hn1, t, ht, he⟩, rfl⟩
        rw [List.getD_eq_getElem?_getD, List.getElem?_eq_getElem hn1, Option.getD_some] at he
        refine ⟨t, ht, ?_⟩
        exact (gix_at hn1 ((fmEq_iff _ _).1 he) (fun j hj hlt hje => by
          have := List.pairwise_iff_getElem.1 hn j n hj hn1 hlt
          exact this (hje.trans ((fmEq_iff _ _).1 he).symm))).symm
  unfold frm
  rw [e, List.map_map]
  have e2 : ((fun i : Int => L.getD i.toNat ⟨0, 0, 0⟩) ∘ Int.ofNat) = fun i : Nat => L.getD i ⟨0, 0, 0⟩ := by funext i; simp
  rw [e2]
  have e3 : L = (List.range L.length).map fun i => L.getD i ⟨0, 0, 0⟩ := by
    refine List.ext_getElem (by simp) fun i h3 h4 => ?_
    simp [List.getElem?_eq_getElem h3]
  conv => rhs; rw [e3]
  rw [List.filter_map]
  rfl
theorem ixs_len (L T : List Fm) (n : Nat) : (ixs L (T.take n)).length ≤ n := by
  have : ∀ (T : List Fm) (A : List Int), (T.foldl (fun A t => putI A (gix L t)) A).length ≤ A.length + T.length := by
    intro T
    induction T with
    | nil => intro A; simp
    | cons t T ih =>
      intro A
      have h1 := ih (putI A (gix L t))
      have h2 : ∀ (A : List Int) (x : Int), (putI A x).length ≤ A.length + 1 := by
        intro A x
        induction A with
        | nil => simp [putI]
        | cons y A ih => unfold putI; split <;> (try split) <;> simp <;> omega
      have := h2 A (gix L t)
      simp only [List.foldl_cons, List.length_cons]
      omega
  have h := this (T.take n) []
  unfold ixs
  simp [List.length_take] at h ⊢
  omega
theorem ixs_lt {L T : List Fm} (hT : ∀ t ∈ T, t ∈ L) : ∀ x ∈ ixs L T, 0 ≤ x ∧ x < L.length := by
  intro x hx
  rcases ((ixs_fold L T [] List.Pairwise.nil).2 x).1 hx with h | ⟨t, ht, rfl⟩
  · simp at h
  · obtain ⟨n, h1, _, h3⟩ := gix_mem (hT t ht)
    omega
end

section
open Go.RowKit

theorem rowF_a {d a : Int} {j : Nat} {f : Fm} (h : f ∈ rowF d a j) : f.a = a := by
  obtain ⟨i, _, hi⟩ := List.mem_filterMap.1 h
  exact (cand_some hi).1
theorem clsL_sorted (d : Int) : (clsL d).Pairwise (fun f g => f.a ≤ g.a) := by
  unfold clsL allR allF
  refine List.Pairwise.filter _ ?_
  rw [List.pairwise_flatMap]
  refine ⟨fun i _ => ?_, ?_⟩
  · refine List.pairwise_iff_getElem.2 (fun j k hj hk _ => ?_)
    rw [rowF_a (List.getElem_mem hj), rowF_a (List.getElem_mem hk)]
    exact Int.le_refl _
  · refine List.Pairwise.imp ?_ List.pairwise_lt_range
    intro i i' hlt x hx y hy
    rw [rowF_a hx, rowF_a hy]
    omega
theorem one_uniq {d : Int} {f : Fm} (hd : disc f = d) (hr : isRed f.a f.b f.c = true) (ha : f.a = 1) : f = oneF d := by
  obtain ⟨a, b, c⟩ := f
  simp only at ha
  subst ha
  have h := (isRed_iff _ _ _).1 hr
  unfold disc at hd
  simp only at h hd
  unfold oneF
  have hb : b = 0 ∨ b = 1 := by omega
  rcases hb with rfl | rfl
  · have e1 : d % 2 = 0 := by omega
    rw [e1]
    congr 1
    omega
  · have e1 : d % 2 = 1 := by omega
    rw [e1]
    congr 1
    omega
theorem cls_head {d : Int} (D : Dsc d) : ∃ L', clsL d = oneF d :: L' := by
  have h1 := D.one
  have hs := clsL_sorted d
  cases hL : clsL d with
  | nil => rw [hL] at h1; simp at h1
  | cons f L' =>
    refine ⟨L', ?_⟩
    rw [hL] at h1 hs
    have hf : f ∈ clsL d := by rw [hL]; simp
    obtain ⟨⟨f1, _, f3, f4, _⟩, _⟩ := mem_clsL D.lo hf
    have ha : f.a = 1 := by
      rcases List.mem_cons.1 h1 with e | e
      · rw [← e]; rfl
      · have := (List.pairwise_cons.1 hs).1 _ e
        have e2 : (oneF d).a = 1 := rfl
        omega
    rw [one_uniq f3 f4 ha]
theorem gix_get {L : List Fm} (hn : L.Pairwise (· ≠ ·)) {k : Nat} (hk : k < L.length) : gix L L[k] = k :=
  gix_at hk rfl (fun j hj hlt he => List.pairwise_iff_getElem.1 hn j k hj hk hlt he)
theorem gix_one {d : Int} (D : Dsc d) : gix (clsL d) (oneF d) = 0 := by
  obtain ⟨L', h⟩ := cls_head D
  have := gix_at (L := clsL d) (f := oneF d) (k := 0) (by rw [h]; simp) (by simp only [h]; rfl) (fun j _ hj => absurd hj (Nat.not_lt_zero _))
  exact this
theorem gix_inj {L : List Fm} {f g : Fm} (hf : f ∈ L) (hg : g ∈ L) (h : gix L f = gix L g) : f = g := by
  obtain ⟨n, h1, h2, h3⟩ := gix_mem hf
  obtain ⟨m, k1, k2, k3⟩ := gix_mem hg
  have e : n = m := by omega
  subst e
  exact h2.symm.trans k2
theorem gix_zero {d : Int} (D : Dsc d) {f : Fm} (hf : f ∈ clsL d) : gix (clsL d) f = 0 ↔ f = oneF d := by
  constructor
  · intro h; exact gix_inj hf D.one (h.trans (gix_one D).symm)
  · rintro rfl; exact gix_one D
theorem gix_bd {L : List Fm} {f : Fm} (hf : f ∈ L) : 0 ≤ gix L f ∧ gix L f < L.length := by
  obtain ⟨n, h1, h2, h3⟩ := gix_mem hf
  omega
/-- The element at the index of f is f. -/
theorem gix_elem {L : List Fm} {f : Fm} (hf : f ∈ L) {n : Nat} (h : gix L f = n) : ∃ h : n < L.length, L[n] = f := by
  obtain ⟨m, h1, h2, h3⟩ := gix_mem hf
  have e : m = n := by omega
  subst e
  exact ⟨h1, h2⟩
/-- The indices of the first n powers of f. -/
noncomputable def pwI (d : Int) (L : List Fm) (f : Fm) (n : Nat) : List Int := (List.range n).map fun k => gix L (pw d f k)
theorem pwI_len (d : Int) (L : List Fm) (f : Fm) (n : Nat) : (pwI d L f n).length = n := by unfold pwI; simp
theorem pwI_next (d : Int) (L : List Fm) (f : Fm) (n : Nat) : pwI d L f (n + 1) = pwI d L f n ++ [gix L (pw d f n)] := by
  unfold pwI; rw [List.range_succ, List.map_append]; rfl
/-- The orders of the classes. -/
noncomputable def ordsL (d : Int) (L : List Fm) : List Int := L.map fun f => (ordF d f : Int)
theorem ordsL_len (d : Int) (L : List Fm) : (ordsL d L).length = L.length := by unfold ordsL; simp
theorem ordsL_take {d : Int} {L : List Fm} {k : Nat} (h : k < L.length) : ordsL d (L.take (k + 1)) = ordsL d (L.take k) ++ [(ordF d L[k] : Int)] := by
  unfold ordsL
  rw [List.take_succ_eq_append_getElem h, List.map_append]; rfl
/-- The power n is not the identity before the order. -/
theorem ord_ne {d : Int} {f : Fm} {N n : Nat} (h : IsOrd d f N) (h1 : 1 ≤ n) (h2 : n ≤ N) : (pw d f n = oneF d ↔ n = N) := by
  constructor
  · intro e
    apply Nat.le_antisymm h2
    apply Nat.not_lt.1
    intro hlt
    exact h.2.2 n h1 hlt e
  · rintro rfl; exact h.2.1
end
end Go.Proofs.Ytdhennlanngjgaa
