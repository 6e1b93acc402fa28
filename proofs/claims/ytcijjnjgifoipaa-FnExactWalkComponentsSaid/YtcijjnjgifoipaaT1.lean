/- Plain facts: the first class is the identity; the indices of classes. -/
import Derived.Test.YtcijjnjgifoipaaK3
namespace Go.Proofs.Ytcijjnjgifoipaa
open Go.RowKit

theorem rowF_a {d a : Int} {j : Nat} {f : Fm} (h : f ∈ rowF d a j) : f.a = a := by
  obtain ⟨i, _, hi⟩ := List.mem_filterMap.1 h
  exact (cand_some hi).1
theorem clsL_sorted (d : Int) : (clsL d).Pairwise (fun f g => f.a ≤ g.a) := by
  unfold clsL allR allF
  refine List.Pairwise.filter _ ?_
  rw [List.pairwise_flatMap]
  refine ⟨fun i _ => ?_, ?_⟩
  · refine List.pairwise_iff_getElem.2 (fun j k hj hk _ => ?_)
    rw [rowF_a (List.getElem_mem hj), rowF_a (List.getElem_mem hk)]
    exact Int.le_refl _
  · refine List.Pairwise.imp ?_ List.pairwise_lt_range
    intro i i' hlt x hx y hy
    rw [rowF_a hx, rowF_a hy]
    omega
theorem one_uniq {d : Int} {f : Fm} (hd : disc f = d) (hr : isRed f.a f.b f.c = true) (ha : f.a = 1) : f = oneF d := by
  obtain ⟨a, b, c⟩ := f
  simp only at ha
  subst ha
  have h := (isRed_iff _ _ _).1 hr
  unfold disc at hd
  simp only at h hd
  unfold oneF
  have hb : b = 0 ∨ b = 1 := by omega
  rcases hb with rfl | rfl
  · have e1 : d % 2 = 0 := by omega
    rw [e1]
    congr 1
    omega
  · have e1 : d % 2 = 1 := by omega
    rw [e1]
    congr 1
    omega
theorem cls_head {d : Int} (D : Dsc d) : ∃ L', clsL d = oneF d :: L' := by
  have h1 := D.one
  have hs := clsL_sorted d
  cases hL : clsL d with
  | nil => rw [hL] at h1; simp at h1
  | cons f L' =>
    refine ⟨L', ?_⟩
    rw [hL] at h1 hs
    have hf : f ∈ clsL d := by rw [hL]; simp
    obtain ⟨⟨f1, _, f3, f4, _⟩, _⟩ := mem_clsL D.lo hf
    have ha : f.a = 1 := by
      rcases List.mem_cons.1 h1 with e | e
      · rw [← e]; rfl
      · have := (List.pairwise_cons.1 hs).1 _ e
        have e2 : (oneF d).a = 1 := rfl
        omega
    rw [one_uniq f3 f4 ha]
theorem gix_get {L : List Fm} (hn : L.Pairwise (· ≠ ·)) {k : Nat} (hk : k < L.length) : gix L L[k] = k :=
  gix_at hk rfl (fun j hj hlt he => List.pairwise_iff_getElem.1 hn j k hj hk hlt he)
theorem gix_one {d : Int} (D : Dsc d) : gix (clsL d) (oneF d) = 0 := by
  obtain ⟨L', h⟩ := cls_head D
  have := gix_at (L := clsL d) (f := oneF d) (k := 0) (by rw [h]; simp) (by simp only [h]; rfl) (fun j _ hj => absurd hj (Nat.not_lt_zero _))
  exact this
theorem gix_inj {L : List Fm} {f g : Fm} (hf : f ∈ L) (hg : g ∈ L) (h : gix L f = gix L g) : f = g := by
  obtain ⟨n, h1, h2, h3⟩ := gix_mem hf
  obtain ⟨m, k1, k2, k3⟩ := gix_mem hg
  have e : n = m := by omega
  subst e
  exact h2.symm.trans k2
theorem gix_zero {d : Int} (D : Dsc d) {f : Fm} (hf : f ∈ clsL d) : gix (clsL d) f = 0 ↔ f = oneF d := by
  constructor
  · intro h; exact gix_inj hf D.one (h.trans (gix_one D).symm)
  · rintro rfl; exact gix_one D
theorem gix_bd {L : List Fm} {f : Fm} (hf : f ∈ L) : 0 ≤ gix L f ∧ gix L f < L.length := by
  obtain ⟨n, h1, h2, h3⟩ := gix_mem hf
  omega
/-- The element at the index of f is f. -/
theorem gix_elem {L : List Fm} {f : Fm} (hf : f ∈ L) {n : Nat} (h : gix L f = n) : ∃ h : n < L.length, L[n] = f := by
  obtain ⟨m, h1, h2, h3⟩ := gix_mem hf
  have e : m = n := by omega
  subst e
  exact ⟨h1, h2⟩
/-- The indices of the first n powers of f. -/
noncomputable def pwI (d : Int) (L : List Fm) (f : Fm) (n : Nat) : List Int := (List.range n).map fun k => gix L (pw d f k)
theorem pwI_len (d : Int) (L : List Fm) (f : Fm) (n : Nat) : (pwI d L f n).length = n := by unfold pwI; simp
theorem pwI_next (d : Int) (L : List Fm) (f : Fm) (n : Nat) : pwI d L f (n + 1) = pwI d L f n ++ [gix L (pw d f n)] := by
  unfold pwI; rw [List.range_succ, List.map_append]; rfl
/-- The orders of the classes. -/
noncomputable def ordsL (d : Int) (L : List Fm) : List Int := L.map fun f => (ordF d f : Int)
theorem ordsL_len (d : Int) (L : List Fm) : (ordsL d L).length = L.length := by unfold ordsL; simp
theorem ordsL_take {d : Int} {L : List Fm} {k : Nat} (h : k < L.length) : ordsL d (L.take (k + 1)) = ordsL d (L.take k) ++ [(ordF d L[k] : Int)] := by
  unfold ordsL
  rw [List.take_succ_eq_append_getElem h, List.map_append]; rfl
/-- The power n is not the identity before the order. -/
theorem ord_ne {d : Int} {f : Fm} {N n : Nat} (h : IsOrd d f N) (h1 : 1 ≤ n) (h2 : n ≤ N) : (pw d f n = oneF d ↔ n = N) := by
  constructor
  · intro e
    apply Nat.le_antisymm h2
    apply Nat.not_lt.1
    intro hlt
    exact h.2.2 n h1 hlt e
  · rintro rfl; exact h.2.1
end Go.Proofs.Ytcijjnjgifoipaa
