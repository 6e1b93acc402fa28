/- Plain facts: a group on indices, cosets. (Its lines stand in B1 and GT too: do not import both.) -/
import Derived.Test.YtkkamlhpappebaaZ1
import Derived.Test.YtkkamlhpappebaaGU
import Derived.Test.YtkkamlhpappebaaZX
namespace Go.Proofs.Ytkkamlhpappebaa
open Go.RowKit
section
/-- Is x a product of i and an element of S? -/
def cosB (mul : Nat → Nat → Nat) (S : List Nat) (i x : Nat) : Bool := S.any fun j => mul i j == x
def cosN (mul : Nat → Nat → Nat) (S : List Nat) (m i : Nat) : List Nat := (List.range m).filter (cosB mul S i)
/-- The cosets of the first k indices. -/
def cosS (mul : Nat → Nat → Nat) (S : List Nat) (m : Nat) : Nat → List (List Nat)
  | 0 => []
  | k + 1 => if (cosS mul S m k).any (fun c => c.contains k) then cosS mul S m k else cosS mul S m k ++ [cosN mul S m k]
def seenB (mul : Nat → Nat → Nat) (S : List Nat) (m k x : Nat) : Bool := (cosS mul S m k).any fun c => c.contains x
variable {mul : Nat → Nat → Nat} {S : List Nat} {m : Nat}
theorem seen_zero (x : Nat) : seenB mul S m 0 x = false := rfl
theorem cosS_yes {k : Nat} (h : seenB mul S m k k = true) : cosS mul S m (k + 1) = cosS mul S m k := by
  unfold seenB at h
  rw [cosS, if_pos h]
theorem cosS_no {k : Nat} (h : seenB mul S m k k = false) : cosS mul S m (k + 1) = cosS mul S m k ++ [cosN mul S m k] := by
  unfold seenB at h
  rw [cosS, if_neg (by rw [h]; simp)]
theorem seen_yes {k : Nat} (h : seenB mul S m k k = true) (x : Nat) : seenB mul S m (k + 1) x = seenB mul S m k x := by
  unfold seenB
  rw [cosS_yes h]
theorem seen_no {k : Nat} (h : seenB mul S m k k = false) (x : Nat) : seenB mul S m (k + 1) x = (seenB mul S m k x || (decide (x < m) && cosB mul S k x)) := by
  have e : (cosN mul S m k).contains x = (decide (x < m) && cosB mul S k x) := by
    rw [Bool.eq_iff_iff]
    simp [cosN]
  conv => lhs; unfold seenB
  rw [cosS_no h, List.any_append]
  simp only [List.any_cons, List.any_nil, Bool.or_false, e]
  rfl
end
section
open Classical
/-- A multiplication on the numbers below m makes a group. -/
structure NG (mul : Nat → Nat → Nat) (m : Nat) : Prop where
  pos : 0 < m
  lt : ∀ i j, i < m → j < m → mul i j < m
  comm : ∀ i j, i < m → j < m → mul i j = mul j i
  assoc : ∀ i j k, i < m → j < m → k < m → mul (mul i j) k = mul i (mul j k)
  one : ∀ i, i < m → mul 0 i = i
  cancel : ∀ i j k, i < m → j < m → k < m → mul i j = mul i k → j = k
theorem full_of {α : Type} {A B : List α} (hA : A.Nodup) (hs : ∀ x ∈ A, x ∈ B) (hl : B.length ≤ A.length) : ∀ y ∈ B, y ∈ A := by
  intro y hy
  apply Classical.byContradiction
  intro hn
  have := (List.nodup_cons.2 ⟨hn, hA⟩).length_le_of_subset (l₂ := B) (fun x hx => by
    rcases List.mem_cons.1 hx with rfl | hx
    · exact hy
    · exact hs x hx)
  simp at this
  omega
section
variable {mul : Nat → Nat → Nat} {J : List Nat} {m : Nat}
theorem mem_span {i : Nat} : i ∈ spanL mul J m ↔ i < m ∧ Rch mul J i := by
  unfold spanL
  rw [List.mem_filter, List.mem_range, rchB_iff]
theorem span_nd : (spanL mul J m).Nodup := List.Nodup.sublist List.filter_sublist List.nodup_range
theorem rch_mul (h : NG mul m) (hJ : ∀ j ∈ J, j < m) {i k : Nat} (hi : Rch mul J i) (hk : Rch mul J k) : Rch mul J (mul i k) := by
  have him := hi.lt h.pos h.lt hJ
  induction hk with
  | zero => rw [h.comm _ _ him h.pos, h.one _ him]; exact hi
  | step hk hj ih =>
    rw [← h.assoc _ _ _ him (hk.lt h.pos h.lt hJ) (hJ _ hj)]
    exact .step ih hj
theorem map_nd (h : NG mul m) {i : Nat} (hi : i < m) : ((spanL mul J m).map (mul i)).Nodup := by
  unfold List.Nodup
  rw [List.pairwise_map]
  refine List.Pairwise.imp_of_mem (fun ha hb hab he => hab ?_) span_nd
  exact h.cancel i _ _ hi (mem_span.1 ha).1 (mem_span.1 hb).1 he
theorem span_inv (h : NG mul m) (hJ : ∀ j ∈ J, j < m) {i : Nat} (hi : i ∈ spanL mul J m) : ∃ k ∈ spanL mul J m, mul i k = 0 := by
  obtain ⟨h1, h2⟩ := mem_span.1 hi
  have := full_of (map_nd (J := J) h h1) (B := spanL mul J m) (fun x hx => by
    obtain ⟨k, hk, rfl⟩ := List.mem_map.1 hx
    obtain ⟨k1, k2⟩ := mem_span.1 hk
    exact mem_span.2 ⟨h.lt _ _ h1 k1, rch_mul h hJ h2 k2⟩) (by simp) 0 (mem_span.2 ⟨h.pos, .zero⟩)
  obtain ⟨k, hk, e⟩ := List.mem_map.1 this
  exact ⟨k, hk, e⟩
theorem mem_cos {S : List Nat} {i x : Nat} : x ∈ cosN mul S m i ↔ x < m ∧ ∃ j ∈ S, mul i j = x := by
  unfold cosN cosB
  rw [List.mem_filter, List.mem_range, List.any_eq_true]
  simp
theorem cos_nd {S : List Nat} {i : Nat} : (cosN mul S m i).Nodup := List.Nodup.sublist List.filter_sublist List.nodup_range
theorem cos_len (h : NG mul m) {i : Nat} (hi : i < m) : (cosN mul (spanL mul J m) m i).length = (spanL mul J m).length := by
  apply Nat.le_antisymm
  · have := (cos_nd (mul := mul) (S := spanL mul J m) (m := m) (i := i)).length_le_of_subset (l₂ := (spanL mul J m).map (mul i)) (fun x hx => by
      obtain ⟨_, j, hj, e⟩ := mem_cos.1 hx
      exact List.mem_map.2 ⟨j, hj, e⟩)
    simpa using this
  · have := (map_nd (J := J) h hi).length_le_of_subset (l₂ := cosN mul (spanL mul J m) m i) (fun x hx => by
      obtain ⟨j, hj, e⟩ := List.mem_map.1 hx
      exact mem_cos.2 ⟨e ▸ h.lt _ _ hi (mem_span.1 hj).1, j, hj, e⟩)
    simpa using this
/-- What the cosets of the first k numbers are. -/
theorem cosS_ok (h : NG mul m) (hJ : ∀ j ∈ J, j < m) : ∀ k, k ≤ m → (∀ c ∈ cosS mul (spanL mul J m) m k, ∃ i, i < k ∧ c = cosN mul (spanL mul J m) m i) ∧ (cosS mul (spanL mul J m) m k).flatten.Nodup ∧ ∀ x, x < k → x ∈ (cosS mul (spanL mul J m) m k).flatten
  | 0, _ => ⟨by simp [cosS], by simp [cosS], fun x hx => by omega⟩
  | k + 1, hk => by
    obtain ⟨a, b, c⟩ := cosS_ok h hJ k (by omega)
    have hown : k ∈ cosN mul (spanL mul J m) m k := mem_cos.2 ⟨by omega, 0, mem_span.2 ⟨h.pos, .zero⟩, by rw [h.comm _ _ (by omega) h.pos, h.one _ (by omega)]⟩
    cases hs : seenB mul (spanL mul J m) m k k with
    | true =>
      rw [cosS_yes hs]
      refine ⟨fun g hg => ?_, b, fun x hx => ?_⟩
      · obtain ⟨i, hi, e⟩ := a g hg
        exact ⟨i, by omega, e⟩
      · rcases Nat.lt_or_eq_of_le (Nat.le_of_lt_succ hx) with hx | rfl
        · exact c x hx
        · unfold seenB at hs
          obtain ⟨g, hg, hc⟩ := List.any_eq_true.1 hs
          exact List.mem_flatten.2 ⟨g, hg, by simpa using hc⟩
    | false =>
      rw [cosS_no hs]
      refine ⟨fun g hg => ?_, ?_, fun x hx => ?_⟩
      · rcases List.mem_append.1 hg with hg | hg
        · obtain ⟨i, hi, e⟩ := a g hg
          exact ⟨i, by omega, e⟩
        · simp at hg
          exact ⟨k, by omega, hg⟩
      · rw [List.flatten_append, List.nodup_append]
        refine ⟨b, by simpa using cos_nd, fun x hx y hy e => ?_⟩
        subst e
        simp at hy
        obtain ⟨g, hg, hxg⟩ := List.mem_flatten.1 hx
        obtain ⟨i, hi, rfl⟩ := a g hg
        obtain ⟨_, j, hj, e1⟩ := mem_cos.1 hy
        obtain ⟨_, j', hj', e2⟩ := mem_cos.1 hxg
        obtain ⟨q, hq, e3⟩ := span_inv h hJ hj
        obtain ⟨j1, j2⟩ := mem_span.1 hj
        obtain ⟨p1, p2⟩ := mem_span.1 hj'
        obtain ⟨q1, q2⟩ := mem_span.1 hq
        have hki : k ∈ cosN mul (spanL mul J m) m i := by
          refine mem_cos.2 ⟨by omega, mul j' q, mem_span.2 ⟨h.lt _ _ p1 q1, rch_mul h hJ p2 q2⟩, ?_⟩
          rw [← h.assoc _ _ _ (by omega) p1 q1, e2, ← e1, h.assoc _ _ _ (by omega) j1 q1, e3, h.comm _ _ (by omega) h.pos, h.one _ (by omega)]
        have : seenB mul (spanL mul J m) m k k = true := by
          unfold seenB
          exact List.any_eq_true.2 ⟨_, hg, by simpa using hki⟩
        rw [hs] at this
        cases this
      · rw [List.flatten_append]
        rcases Nat.lt_or_eq_of_le (Nat.le_of_lt_succ hx) with hx | rfl
        · exact List.mem_append_left _ (c x hx)
        · exact List.mem_append_right _ (by simpa using hown)
end
theorem flat_len {α : Type} {s : Nat} : ∀ (G : List (List α)), (∀ c ∈ G, c.length = s) → G.flatten.length = s * G.length
  | [], _ => by simp
  | c :: G, h => by
    rw [List.flatten_cons, List.length_append, flat_len G (fun c hc => h c (by simp [hc])), h c (by simp), List.length_cons, Nat.mul_succ, Nat.add_comm]
variable {d : Int}
theorem at_mul (D : Dsc d) {i k : Nat} (hi : i < (clsL d).length) (hk : k < (clsL d).length) : ∃ h : mulN d (clsL d) i k < (clsL d).length, (clsL d)[mulN d (clsL d) i k] = cmp d (clsL d)[i] (clsL d)[k] := by
  obtain ⟨h1, h2⟩ := mulN_eq D rfl hi hk
  exact gix_elem (D.cmpm (List.getElem_mem hi) (List.getElem_mem hk)) h1
theorem at_inj {i k : Nat} (hi : i < (clsL d).length) (hk : k < (clsL d).length) (h : (clsL d)[i] = (clsL d)[k]) : i = k := by
  have h1 := gix_get (clsL_nodup d) hi
  have h2 := gix_get (clsL_nodup d) hk
  rw [h] at h1
  omega
theorem at_zero (D : Dsc d) : ∃ h : 0 < (clsL d).length, (clsL d)[0] = oneF d := by
  obtain ⟨L', h⟩ := cls_head D
  refine ⟨by rw [h]; simp, ?_⟩
  simp only [h]
  rfl
theorem ng_cls (D : Dsc d) : NG (mulN d (clsL d)) (clsL d).length := by
  obtain ⟨h0, h1⟩ := at_zero D
  have hm : ∀ i (h : i < (clsL d).length), (clsL d)[i] ∈ clsL d := fun i h => List.getElem_mem h
  refine ⟨h0, fun i j hi hj => (at_mul D hi hj).1, fun i j hi hj => ?_, fun i j k hi hj hk => ?_, fun i hi => ?_, fun i j k hi hj hk e => ?_⟩
  · obtain ⟨a1, a2⟩ := at_mul D hi hj
    obtain ⟨b1, b2⟩ := at_mul D hj hi
    exact at_inj a1 b1 (by rw [a2, b2, D.comm (hm _ hi) (hm _ hj)])
  · obtain ⟨a1, a2⟩ := at_mul D hi hj
    obtain ⟨b1, b2⟩ := at_mul D a1 hk
    obtain ⟨c1, c2⟩ := at_mul D hj hk
    obtain ⟨d1, d2⟩ := at_mul D hi c1
    exact at_inj b1 d1 (by rw [b2, a2, d2, c2, D.assoc (hm _ hi) (hm _ hj) (hm _ hk)])
  · obtain ⟨a1, a2⟩ := at_mul D h0 hi
    exact at_inj a1 hi (by rw [a2, h1, D.one_mul (hm _ hi)])
  · obtain ⟨a1, a2⟩ := at_mul D hi hj
    obtain ⟨b1, b2⟩ := at_mul D hi hk
    have e2 : cmp d (clsL d)[i] (clsL d)[j] = cmp d (clsL d)[i] (clsL d)[k] := by
      rw [← a2, ← b2]
      simp only [e]
    exact at_inj hj hk (cmp_cl2 D (hm _ hi) (hm _ hj) (hm _ hk) e2)
end
end Go.Proofs.Ytkkamlhpappebaa
