/- Plain facts: the greedy choice of a basis, on indices. -/
import Derived.Test.YtkkamlhpappebaaSL
import Derived.Test.YtkkamlhpappebaaLH
namespace Go.Proofs.Ytkkamlhpappebaa

/-- May the element i be chosen beside J? -/
noncomputable def okB (d : Int) (J : List Nat) (n : Int) (i : Nat) : Bool := decide ((ordF d ((clsL d).getD i ⟨0, 0, 0⟩) : Int) = n) && (List.range (clsL d).length).all fun x => !(rchB (mulN d (clsL d)) [i] x && rchB (mulN d (clsL d)) J x) || x == 0
section
variable {d : Int}
/-- The class at an index, as an element of the group. -/
noncomputable def elN (D : Dsc d) (i : Nat) : {f : Fm // f ∈ clsL d} := if h : i < (clsL d).length then ⟨(clsL d)[i], List.getElem_mem h⟩ else ⟨oneF d, D.one⟩
theorem elN_val (D : Dsc d) {i : Nat} (h : i < (clsL d).length) : (elN D i).1 = (clsL d)[i] := by unfold elN; rw [dif_pos h]
theorem elN_mul (D : Dsc d) {i k : Nat} (hi : i < (clsL d).length) (hk : k < (clsL d).length) : elN D (mulN d (clsL d) i k) = (clG D).mul (elN D i) (elN D k) := by
  obtain ⟨h1, h2⟩ := at_mul D hi hk
  apply Subtype.ext
  rw [elN_val D h1, h2]
  show _ = cmp d (elN D i).1 (elN D k).1
  rw [elN_val D hi, elN_val D hk]
theorem elN_zero (D : Dsc d) : elN D 0 = (clG D).one := by
  obtain ⟨h0, h1⟩ := at_zero D
  apply Subtype.ext
  rw [elN_val D h0, h1]; rfl
theorem elN_inj (D : Dsc d) {i k : Nat} (hi : i < (clsL d).length) (hk : k < (clsL d).length) (h : elN D i = elN D k) : i = k := by
  have := congrArg Subtype.val h
  rw [elN_val D hi, elN_val D hk] at this
  exact at_inj hi hk this
theorem elN_ex (D : Dsc d) (x : {f : Fm // f ∈ clsL d}) : ∃ i, ∃ _ : i < (clsL d).length, elN D i = x := by
  obtain ⟨i, hi, e⟩ := List.getElem_of_mem x.2
  exact ⟨i, hi, Subtype.ext ((elN_val D hi).trans e)⟩
/-- What is reached from J lies in every subgroup that has J. -/
theorem rch_sub (D : Dsc d) {T : List {f : Fm // f ∈ clsL d}} (hT : (clG D).Sub T) {J : List Nat} (hJ : ∀ j ∈ J, j < (clsL d).length) (hJT : ∀ j ∈ J, elN D j ∈ T) {y : Nat} (h : Rch (mulN d (clsL d)) J y) : elN D y ∈ T := by
  have ng := ng_cls D
  induction h with
  | zero => rw [elN_zero]; exact hT.one
  | step hk hj ih =>
    rw [elN_mul D (hk.lt ng.pos ng.lt hJ) (hJ _ hj)]
    exact hT.mul _ ih _ (hJT _ hj)
theorem rch_pw (D : Dsc d) {i : Nat} (hi : i < (clsL d).length) {y : Nat} (h : Rch (mulN d (clsL d)) [i] y) : ∃ k, elN D y = (clG D).pw (elN D i) k := by
  have ng := ng_cls D
  induction h with
  | zero => exact ⟨0, by rw [elN_zero]; rfl⟩
  | step hk hj ih =>
    obtain ⟨k, e⟩ := ih
    simp only [List.mem_singleton] at hj
    subst hj
    refine ⟨k + 1, ?_⟩
    rw [elN_mul D (hk.lt ng.pos ng.lt (fun x hx => by simp only [List.mem_singleton] at hx; subst hx; exact hi)) hi, e, Ab.pw, (clG D).comm]
theorem ok_of (D : Dsc d) {T : List {f : Fm // f ∈ clsL d}} (hT : (clG D).Sub T) {J : List Nat} (hJ : ∀ j ∈ J, j < (clsL d).length) (hJT : ∀ j ∈ J, elN D j ∈ T) {i n : Nat} (hi : i < (clsL d).length) (h : (clG D).Ind T (elN D i) n) : okB d J (n : Int) i = true := by
  obtain ⟨h1, h2⟩ := (ind_iff hT).1 h
  have ng := ng_cls D
  have h0 := clG_ord D (elN D i)
  have e1 : ordF d (elN D i).1 = n := Nat.dvd_antisymm (h0.dvd _ h1.2.1) (h1.dvd _ h0.2.1)
  unfold okB
  rw [Bool.and_eq_true, decide_eq_true_eq, List.all_eq_true]
  refine ⟨?_, fun x hx => ?_⟩
  · rw [← e1, elN_val D hi, List.getD_eq_getElem?_getD, List.getElem?_eq_getElem hi]; rfl
  · have hxm := List.mem_range.1 hx
    by_cases hr : rchB (mulN d (clsL d)) [i] x = true ∧ rchB (mulN d (clsL d)) J x = true
    · obtain ⟨k, hk⟩ := rch_pw D hi (rchB_iff.1 hr.1)
      have hT2 := rch_sub D hT hJ hJT (rchB_iff.1 hr.2)
      rw [hk] at hT2
      have := h2 k hT2
      rw [← hk, ← elN_zero D] at this
      have := elN_inj D hxm ng.pos this
      simp [this]
    · cases ha : rchB (mulN d (clsL d)) [i] x <;> cases hb : rchB (mulN d (clsL d)) J x <;> simp_all
/-- At each step there is an index to choose. -/
theorem ok_ex (D : Dsc d) {J : List Nat} (hJ : ∀ j ∈ J, j < (clsL d).length) {n : Nat} (hn : (invL d).getD J.length 1 = (n : Int)) (hn0 : 0 < n) : ∃ i, i < (clsL d).length ∧ okB d J (n : Int) i = true := by
  obtain ⟨T, t1, t2, t3, t4, t5⟩ := (clG D).span_ex (clG_all D) (clG_tor D) (J.map (elN D)) (fun j _ => List.mem_attach _ _)
  rw [List.length_map] at t5
  obtain ⟨x, hx, hind⟩ := bas_step D t1 t5 hn hn0
  obtain ⟨i, hi, rfl⟩ := elN_ex D x
  exact ⟨i, hi, ok_of D t1 hJ (fun j hj => t3 _ (List.mem_map.2 ⟨j, hj, rfl⟩)) hi hind⟩
theorem inv_nat (D : Dsc d) (j : Nat) : ∃ n : Nat, 0 < n ∧ (invL d).getD j 1 = (n : Int) := by
  have hm0 : 0 < (clsL d).length := List.length_pos_of_mem D.one
  have hm1 := clsL_len d
  have hpr : ∀ x ∈ prims (clsL d).length, Ab.PrN x.toNat := fun x hx => prI_nat ((mem_prims (by omega) (by omega)).1 hx).1
  have h1 := fold_get d j (prims (clsL d).length) []
  refine ⟨ppR d j (prims (clsL d).length), ?_, by unfold invL; rw [h1]; simp⟩
  generalize prims (clsL d).length = F at *
  clear h1
  induction F with
  | nil => simp [ppR]
  | cons x F ih =>
    rw [ppR]
    have := (hpr x (by simp)).1
    exact Nat.mul_pos (Nat.pow_pos (by omega)) (ih fun y hy => hpr y (by simp [hy]))
/-- The basis of the t greatest factors. -/
noncomputable def bsN (d : Int) : Nat → List Nat
  | 0 => []
  | t + 1 => ((List.range (clsL d).length).find? (okB d (bsN d t) ((invL d).getD t 1))).getD 0 :: bsN d t
theorem bsN_len (d : Int) : ∀ t, (bsN d t).length = t
  | 0 => rfl
  | t + 1 => by rw [bsN, List.length_cons, bsN_len d t]
theorem bsN_step (D : Dsc d) : ∀ t, (∀ j ∈ bsN d t, j < (clsL d).length) ∧ ∃ i, i < (clsL d).length ∧ okB d (bsN d t) ((invL d).getD t 1) i = true ∧ (∀ k, k < i → okB d (bsN d t) ((invL d).getD t 1) k = false) ∧ bsN d (t + 1) = i :: bsN d t := by
  have step : ∀ t, (∀ j ∈ bsN d t, j < (clsL d).length) → ∃ i, i < (clsL d).length ∧ okB d (bsN d t) ((invL d).getD t 1) i = true ∧ (∀ k, k < i → okB d (bsN d t) ((invL d).getD t 1) k = false) ∧ bsN d (t + 1) = i :: bsN d t := by
    intro t ht
    obtain ⟨n, hn0, hn⟩ := inv_nat D t
    obtain ⟨i0, hi0, hok⟩ := ok_ex D ht (n := n) (by rw [bsN_len]; exact hn) hn0
    rw [← hn] at hok
    cases hf : (List.range (clsL d).length).find? (okB d (bsN d t) ((invL d).getD t 1)) with
    | none =>
      have := List.find?_eq_none.1 hf i0 (List.mem_range.2 hi0)
      exact absurd hok this
    | some i =>
      obtain ⟨h1, h2, h3⟩ := List.find?_range_eq_some.1 hf
      refine ⟨i, List.mem_range.1 h2, h1, fun k hk => by simpa using h3 k hk, ?_⟩
      rw [bsN, hf]; rfl
  intro t
  induction t with
  | zero => exact ⟨by simp [bsN], step 0 (by simp [bsN])⟩
  | succ t ih =>
    obtain ⟨i, hi, _, _, e⟩ := ih.2
    have hm : ∀ j ∈ bsN d (t + 1), j < (clsL d).length := by
      rw [e]
      intro j hj
      rcases List.mem_cons.1 hj with rfl | hj
      · exact hi
      · exact ih.1 j hj
    exact ⟨hm, step (t + 1) hm⟩
end
end Go.Proofs.Ytkkamlhpappebaa
