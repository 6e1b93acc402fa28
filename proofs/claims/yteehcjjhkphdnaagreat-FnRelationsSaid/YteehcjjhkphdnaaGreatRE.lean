/- Plain facts on relations: other signs give the inverse, least relations give the identity with a sum at most the order. -/
import Derived.Test.YteehcjjhkphdnaaGreatLG
import Derived.Test.YteehcjjhkphdnaaGreatPK
import Derived.Test.YteehcjjhkphdnaaGreatPH
namespace Go.Proofs.YteehcjjhkphdnaaGreat
open Go.RowKit

section
variable {d : Int}
theorem inv_mem (D : Dsc d) {f : Fm} (hf : f ∈ clsL d) : red (oppF f) ∈ clsL d := D.opp_mem hf (CF.of_mem D hf).df
theorem inv_cmp1 (D : Dsc d) {f : Fm} (hf : f ∈ clsL d) : cmp d f (red (oppF f)) = oneF d := D.inv hf (CF.of_mem D hf).df
theorem inv_of (D : Dsc d) {f g : Fm} (hf : f ∈ clsL d) (hg : g ∈ clsL d) (h : cmp d f g = oneF d) : g = red (oppF f) := cmp_cl2 D hf hg (inv_mem D hf) (h.trans (inv_cmp1 D hf).symm)
theorem inv_one (D : Dsc d) : red (oppF (oneF d)) = oneF d := (inv_of D D.one D.one (D.one_mul D.one)).symm
theorem inv_inv (D : Dsc d) {f : Fm} (hf : f ∈ clsL d) : red (oppF (red (oppF f))) = f := (inv_of D (inv_mem D hf) hf (by rw [D.comm (inv_mem D hf) hf]; exact inv_cmp1 D hf)).symm
theorem inv_mul (D : Dsc d) {f g : Fm} (hf : f ∈ clsL d) (hg : g ∈ clsL d) : red (oppF (cmp d f g)) = cmp d (red (oppF f)) (red (oppF g)) := by
  have h1 := inv_mem D hf
  have h2 := inv_mem D hg
  refine (inv_of D (D.cmpm hf hg) (D.cmpm h1 h2) ?_).symm
  rw [D.assoc hf hg (D.cmpm h1 h2), D.comm h1 h2, ← D.assoc hg h2 h1, inv_cmp1 D hg, D.one_mul h1, inv_cmp1 D hf]
theorem inv_pw (D : Dsc d) {f : Fm} (hf : f ∈ clsL d) : ∀ n, pw d (red (oppF f)) n = red (oppF (pw d f n))
  | 0 => (inv_one D).symm
  | n + 1 => by rw [pw, pw, inv_pw D hf n, inv_mul D (D.pwm hf n) hf]
theorem pwZ_neg (D : Dsc d) {f : Fm} (hf : f ∈ clsL d) (e : Int) : pwZ d f (-e) = red (oppF (pwZ d f e)) := by
  unfold pwZ
  by_cases h0 : e = 0
  · subst h0; simp only [Int.neg_zero, Int.le_refl, if_true]; exact (inv_one D).symm
  · by_cases h : 0 ≤ e
    · rw [if_pos h, if_neg (by omega), Int.neg_neg, inv_pw D hf]
    · rw [if_neg h, if_pos (by omega), inv_pw D hf, inv_inv D (D.pwm hf _)]
theorem relK_neg (D : Dsc d) {K : List Fm} (hK : ∀ f ∈ K, f ∈ clsL d) (E : List Int) : ∀ k, k ≤ K.length → relK d K (E.map fun x => -x) k = red (oppF (relK d K E k))
  | 0, _ => (inv_one D).symm
  | k + 1, h => by
    have hm : K.getD k ⟨0, 0, 0⟩ ∈ clsL d := hK _ (by rw [List.getD_eq_getElem?_getD, List.getElem?_eq_getElem (show k < K.length by omega)]; exact List.getElem_mem _)
    have he : (E.map fun x => -x).getD k 0 = -(E.getD k 0) := by
      rw [List.getD_eq_getElem?_getD, List.getD_eq_getElem?_getD, List.getElem?_map]
      cases E[k]? <;> simp
    rw [relK, relK, relK_neg D hK E k (by omega), he, pwZ_neg D hm, inv_mul D (relK_mem D hK E k (by omega)) (pwZ_mem D hm _)]
theorem kOf_lo (hd : -2000 ≤ d) : kOf d ≤ 25 := by
  unfold kOf
  cases h : (List.range 40).find? (fun k : Nat => !decide (3 * ((k : Int) + 1) * (k + 1) ≤ -d)) with
  | none =>
    have := List.find?_eq_none.1 h 25 (List.mem_range.2 (by omega))
    simp at this
    omega
  | some k =>
    simp only [Option.getD_some]
    obtain ⟨_, _, h3⟩ := List.find?_range_eq_some.1 h
    apply Nat.not_lt.1
    intro hl
    have := h3 25 hl
    simp at this
    omega
theorem clsL_lo (hd : -2000 ≤ d) : (clsL d).length ≤ 650 := by
  refine Nat.le_trans (List.length_filter_le _ _) ?_
  have h1 := allF_len d (kOf d)
  have h2 := Nat.mul_le_mul (kOf_lo hd) (Nat.succ_le_succ (kOf_lo hd))
  unfold allR
  exact Nat.le_trans h1 h2
theorem ord_le (D : Dsc d) {f : Fm} (hf : f ∈ clsL d) : ordF d f ≤ 650 := by
  have h1 := clG_ord D ⟨f, hf⟩
  have h2 := (clG D).ord_dvd (clG_all D) (clG_tor D) (x := ⟨f, hf⟩) (List.mem_attach _ _) h1.1 h1.2.1 h1.2.2
  rw [att_len] at h2
  exact Nat.le_trans (Nat.le_of_dvd (List.length_pos_of_mem hf) h2) (clsL_lo D.lo)
end
/-- What the law asks of a relation's class. -/
structure RcRow (d : Int) (Z E : List Int) (p : Fm) : Prop where
  ds : isDisc d = true
  mem : p ∈ clsL d
  bd : ∀ e ∈ E, -1000 ≤ e ∧ e ≤ 1000
  neg : rcO d Z (E.map fun x => -x) = some (red (oppF p))
  size : ∃ n, rzO d Z = some n ∧ 1 ≤ n ∧ n ≤ (clsL d).length ∧ n ∣ (clsL d).length
theorem rc_row {d : Int} {Z E : List Int} {p : Fm} (h : rcO d Z E = some p) : RcRow d Z E p := by
  unfold rcO at h
  rw [Option.bind_eq_some_iff] at h
  obtain ⟨L, hL, h⟩ := h
  split at h
  · rename_i hc
    obtain ⟨hc1, hc2⟩ := hc
    injection h with h
    obtain ⟨hd, hcf, hlen, _, _⟩ := pfsO_cf hL
    have D := dsc_of hd
    have hK : ∀ f ∈ L.map red, f ∈ clsL d := fun f hf => by
      obtain ⟨g, hg, rfl⟩ := List.mem_map.1 hf
      exact (hcf g hg).mem
    have hb := inR_mem hc2
    have hml : (L.map red).length = L.length := List.length_map ..
    refine ⟨hd, h ▸ relK_mem D hK E _ (by omega), hb, ?_, ?_⟩
    · rw [rcO_yes hL (by rw [List.length_map]; exact hc1) ?_, relK_neg D hK E _ (by omega), h]
      apply inR_yes
      intro j hj
      have := hb (E[j]'(by simpa using hj)) (List.getElem_mem _)
      rw [List.getElem_map]
      simp only [Bool.and_eq_true, decide_eq_true_eq]
      omega
    · have h2 : rzO d Z = some (cB (rchB (mulN d (clsL d)) (gensN (clsL d) L)) (clsL d).length) := by unfold rzO; rw [hL]; rfl
      exact ⟨_, h2, rz_dvd h2⟩
  · cases h
theorem loopD_mem {α : Type} {h : Nat → Option α} {x : α} : ∀ {n : Nat}, loopD h n = some x → ∃ k, k < n ∧ h k = some x
  | 0, hx => by cases hx
  | n + 1, hx => by
    rw [loopD] at hx
    cases hn : h n with
    | some y => rw [hn] at hx; exact ⟨n, by omega, by rw [hn]; exact hx⟩
    | none =>
      rw [hn] at hx
      obtain ⟨k, hk, e⟩ := loopD_mem hx
      exact ⟨k, by omega, e⟩
theorem lastL_ok (g : List Int → Bool) : ∀ (p s : Nat) (pre E : List Int), lastL g p s pre = some E → g E = true ∧ ∃ t : List Int, E = pre ++ t ∧ t.length = p + 1 ∧ (∀ x ∈ t, 0 ≤ x ∧ x ≤ s) ∧ t.sum = s
  | 0, s, pre, E, h => by
    rw [lastL] at h
    split at h
    · rename_i hg
      injection h with h
      subst h
      exact ⟨hg, [(s : Int)], rfl, rfl, by simp, by simp⟩
    · cases h
  | p + 1, s, pre, E, h => by
    rw [lastL] at h
    obtain ⟨f, hf, h⟩ := loopD_mem h
    obtain ⟨hg, t, rfl, h2, h3, h4⟩ := lastL_ok g p _ _ _ h
    refine ⟨hg, (f : Int) :: t, by simp, by simp [h2], ?_, ?_⟩
    · intro x hx
      rcases List.mem_cons.1 hx with rfl | hx
      · omega
      · have := h3 x hx; omega
    · rw [List.sum_cons, h4]; omega
theorem lsUp_min {h : Nat → Option (List Int)} {x : List Int} : ∀ (k s : Nat), lsUp h k s = some x → ∃ s', s ≤ s' ∧ h s' = some x ∧ ∀ j, s ≤ j → j < s' → h j = none
  | 0, s, hx => by cases hx
  | k + 1, s, hx => by
    rw [lsUp] at hx
    cases hs : h s with
    | some y =>
      rw [hs] at hx
      exact ⟨s, Nat.le_refl _, by rw [hs]; exact hx, fun j h1 h2 => by omega⟩
    | none =>
      rw [hs] at hx
      obtain ⟨s', h1, h2, h3⟩ := lsUp_min k (s + 1) hx
      refine ⟨s', by omega, h2, fun j j1 j2 => ?_⟩
      by_cases e : j = s
      · subst e; exact hs
      · exact h3 j (by omega) j2
theorem rel_ord {d : Int} (D : Dsc d) {K : List Fm} (hK : ∀ f ∈ K, f ∈ clsL d) {p : Nat} (hp : K.length = p + 1) : ∃ E, lastL (gdB d K) p (ordF d (K.getD 0 ⟨0, 0, 0⟩)) [] = some E := by
  have hm : K.getD 0 ⟨0, 0, 0⟩ ∈ clsL d := hK _ (by rw [List.getD_eq_getElem?_getD, List.getElem?_eq_getElem (show 0 < K.length by omega)]; exact List.getElem_mem _)
  obtain ⟨h1, _⟩ := D.ordm hm
  refine lastL_first _ _ _ ?_
  unfold gdB
  rw [fmEq_iff, pw_relK D hK rfl (n := ordF d (K.getD 0 ⟨0, 0, 0⟩)) rfl ?_ K.length (by omega) (Nat.le_refl _)]
  · exact h1.2.1
  · intro k hk
    obtain ⟨j, rfl⟩ : ∃ j, k = j + 1 := ⟨k - 1, by omega⟩
    rw [List.getD_cons_succ, List.getD_eq_getElem?_getD, List.getElem?_replicate]
    split <;> rfl
/-- What the law asks of a least relation. -/
structure LrRow (d : Int) (Z E : List Int) (z : Int) (f : Fm) : Prop where
  ds : isDisc d = true
  pos : 0 < Z.length
  fst : ∀ h : 0 < Z.length, Z[0] = z
  pr : prF d z = some f
  cl : rcO d Z E = some (oneF d)
  lo : 1 ≤ E.sum
  hi : E.sum ≤ ordF d (red f)
  bd : (∀ e ∈ E, 0 ≤ e ∧ e ≤ 650) ∧ E.length ≤ 6
theorem lr_row {d : Int} {Z E : List Int} (h : lrO d Z = some E) : ∃ z f, LrRow d Z E z f := by
  unfold lrO at h
  rw [Option.bind_eq_some_iff] at h
  obtain ⟨L, hL, h⟩ := h
  obtain ⟨hd, hcf, hlen, hle, h1⟩ := pfsO_cf hL
  have D := dsc_of hd
  have hL2 : pfL d Z = some L := by
    unfold pfsO at hL
    split at hL
    · exact hL
    · cases hL
  have hL6 : pfsO d Z 6 = some L := by
    unfold pfsO
    rw [if_pos ⟨hd, h1, by omega⟩]; exact hL2
  have hK : ∀ f ∈ L.map red, f ∈ clsL d := fun f hf => by
    obtain ⟨g, hg, rfl⟩ := List.mem_map.1 hf
    exact (hcf g hg).mem
  have hml : (L.map red).length = L.length := List.length_map ..
  cases Z with
  | nil => simp at h1
  | cons z Z' =>
    rw [pfL] at hL2
    rw [Option.bind_eq_some_iff] at hL2
    obtain ⟨f, hf, hL2⟩ := hL2
    rw [Option.map_eq_some_iff] at hL2
    obtain ⟨L', _, rfl⟩ := hL2
    obtain ⟨E2, hE2⟩ := rel_ord D hK (p := L'.length) (by simp)
    have eK : ((f :: L').map red).getD 0 ⟨0, 0, 0⟩ = red f := rfl
    rw [eK] at hE2
    have ho := ord_le D (hcf f (by simp)).mem
    unfold lrK at h
    obtain ⟨s, s1, hs, hmin⟩ := lsUp_min _ _ h
    have e1 : ((f :: L').map red).length - 1 = L'.length := by simp
    rw [e1] at hs hmin
    have o1 := (D.ordm (hcf f (by simp)).mem).1.1
    have hso : s ≤ ordF d (red f) := by
      apply Nat.not_lt.1
      intro hl
      have := hmin _ o1 hl
      rw [hE2] at this
      cases this
    obtain ⟨g1, t, rfl, t2, t3, t4⟩ := lastL_ok _ _ _ _ _ hs
    have hlt : E.length = (f :: L').length := by simp [t2]
    refine ⟨z, f, hd, by simp, fun _ => rfl, hf, ?_, by omega, by omega, ⟨fun e he => by have := t3 e he; omega, by simp at hlen; simp at hle; omega⟩⟩
    have hb : inR (-1000) 1000 E = true := by
      apply inR_yes
      intro j hj
      have := t3 _ (List.getElem_mem hj)
      simp only [Bool.and_eq_true, decide_eq_true_eq]
      omega
    rw [rcO_yes hL6 (by omega) hb]
    unfold gdB at g1
    rw [fmEq_iff, hml] at g1
    rw [g1]
end Go.Proofs.YteehcjjhkphdnaaGreat
