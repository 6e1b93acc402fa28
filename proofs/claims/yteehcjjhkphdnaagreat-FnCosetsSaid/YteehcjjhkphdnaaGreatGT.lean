/- Plain facts: cosets of a generated subgroup: one size, each class once; orders divide the size. -/
import Derived.Test.YteehcjjhkphdnaaGreatBC
import Derived.Test.YteehcjjhkphdnaaGreatGU
namespace Go.Proofs.YteehcjjhkphdnaaGreat
open Classical

/-- A multiplication on the numbers below m makes a group. -/
structure NG (mul : Nat → Nat → Nat) (m : Nat) : Prop where
  pos : 0 < m
  lt : ∀ i j, i < m → j < m → mul i j < m
  comm : ∀ i j, i < m → j < m → mul i j = mul j i
  assoc : ∀ i j k, i < m → j < m → k < m → mul (mul i j) k = mul i (mul j k)
  one : ∀ i, i < m → mul 0 i = i
  cancel : ∀ i j k, i < m → j < m → k < m → mul i j = mul i k → j = k
theorem full_of {α : Type} {A B : List α} (hA : A.Nodup) (hs : ∀ x ∈ A, x ∈ B) (hl : B.length ≤ A.length) : ∀ y ∈ B, y ∈ A := by
  intro y hy
  apply Classical.byContradiction
  intro hn
  have := (List.nodup_cons.2 ⟨hn, hA⟩).length_le_of_subset (l₂ := B) (fun x hx => by
    rcases List.mem_cons.1 hx with rfl | hx
    · exact hy
    · exact hs x hx)
  simp at this
  omega
section
variable {mul : Nat → Nat → Nat} {J : List Nat} {m : Nat}
theorem mem_span {i : Nat} : i ∈ spanL mul J m ↔ i < m ∧ Rch mul J i := by
  unfold spanL
  rw [List.mem_filter, List.mem_range, rchB_iff]
theorem span_nd : (spanL mul J m).Nodup := List.Nodup.sublist List.filter_sublist List.nodup_range
theorem rch_mul (h : NG mul m) (hJ : ∀ j ∈ J, j < m) {i k : Nat} (hi : Rch mul J i) (hk : Rch mul J k) : Rch mul J (mul i k) := by
  have him := hi.lt h.pos h.lt hJ
  induction hk with
  | zero => rw [h.comm _ _ him h.pos, h.one _ him]; exact hi
  | step hk hj ih =>
    rw [← h.assoc _ _ _ him (hk.lt h.pos h.lt hJ) (hJ _ hj)]
    exact .step ih hj
theorem map_nd (h : NG mul m) {i : Nat} (hi : i < m) : ((spanL mul J m).map (mul i)).Nodup := by
  unfold List.Nodup
  rw [List.pairwise_map]
  refine List.Pairwise.imp_of_mem (fun ha hb hab he => hab ?_) span_nd
  exact h.cancel i _ _ hi (mem_span.1 ha).1 (mem_span.1 hb).1 he
theorem span_inv (h : NG mul m) (hJ : ∀ j ∈ J, j < m) {i : Nat} (hi : i ∈ spanL mul J m) : ∃ k ∈ spanL mul J m, mul i k = 0 := by
  obtain ⟨h1, h2⟩ := mem_span.1 hi
  have := full_of (map_nd (J := J) h h1) (B := spanL mul J m) (fun x hx => by
    obtain ⟨k, hk, rfl⟩ := List.mem_map.1 hx
    obtain ⟨k1, k2⟩ := mem_span.1 hk
    exact mem_span.2 ⟨h.lt _ _ h1 k1, rch_mul h hJ h2 k2⟩) (by simp) 0 (mem_span.2 ⟨h.pos, .zero⟩)
  obtain ⟨k, hk, e⟩ := List.mem_map.1 this
  exact ⟨k, hk, e⟩
theorem mem_cos {S : List Nat} {i x : Nat} : x ∈ cosN mul S m i ↔ x < m ∧ ∃ j ∈ S, mul i j = x := by
  unfold cosN cosB
  rw [List.mem_filter, List.mem_range, List.any_eq_true]
  simp
theorem cos_nd {S : List Nat} {i : Nat} : (cosN mul S m i).Nodup := List.Nodup.sublist List.filter_sublist List.nodup_range
theorem cos_len (h : NG mul m) {i : Nat} (hi : i < m) : (cosN mul (spanL mul J m) m i).length = (spanL mul J m).length := by
  apply Nat.le_antisymm
  · have := (cos_nd (mul := mul) (S := spanL mul J m) (m := m) (i := i)).length_le_of_subset (l₂ := (spanL mul J m).map (mul i)) (fun x hx => by
      obtain ⟨_, j, hj, e⟩ := mem_cos.1 hx
      exact List.mem_map.2 ⟨j, hj, e⟩)
    simpa using this
  · have := (map_nd (J := J) h hi).length_le_of_subset (l₂ := cosN mul (spanL mul J m) m i) (fun x hx => by
      obtain ⟨j, hj, e⟩ := List.mem_map.1 hx
      exact mem_cos.2 ⟨e ▸ h.lt _ _ hi (mem_span.1 hj).1, j, hj, e⟩)
    simpa using this
/-- What the cosets of the first k numbers are. -/
theorem cosS_ok (h : NG mul m) (hJ : ∀ j ∈ J, j < m) : ∀ k, k ≤ m → (∀ c ∈ cosS mul (spanL mul J m) m k, ∃ i, i < k ∧ c = cosN mul (spanL mul J m) m i) ∧ (cosS mul (spanL mul J m) m k).flatten.Nodup ∧ ∀ x, x < k → x ∈ (cosS mul (spanL mul J m) m k).flatten
  | 0, _ => ⟨by simp [cosS], by simp [cosS], fun x hx => by omega⟩
  | k + 1, hk => by
    obtain ⟨a, b, c⟩ := cosS_ok h hJ k (by omega)
    have hown : k ∈ cosN mul (spanL mul J m) m k := mem_cos.2 ⟨by omega, 0, mem_span.2 ⟨h.pos, .zero⟩, by rw [h.comm _ _ (by omega) h.pos, h.one _ (by omega)]⟩
    cases hs : seenB mul (spanL mul J m) m k k with
    | true =>
      rw [cosS_yes hs]
      refine ⟨fun g hg => ?_, b, fun x hx => ?_⟩
      · obtain ⟨i, hi, e⟩ := a g hg
        exact ⟨i, by omega, e⟩
      · rcases Nat.lt_or_eq_of_le (Nat.le_of_lt_succ hx) with hx | rfl
        · exact c x hx
        · unfold seenB at hs
          obtain ⟨g, hg, hc⟩ := List.any_eq_true.1 hs
          exact List.mem_flatten.2 ⟨g, hg, by simpa using hc⟩
    | false =>
      rw [cosS_no hs]
      refine ⟨fun g hg => ?_, ?_, fun x hx => ?_⟩
      · rcases List.mem_append.1 hg with hg | hg
        · obtain ⟨i, hi, e⟩ := a g hg
          exact ⟨i, by omega, e⟩
        · simp at hg
          exact ⟨k, by omega, hg⟩
      · rw [List.flatten_append, List.nodup_append]
        refine ⟨b, by simpa using cos_nd, fun x hx y hy e => ?_⟩
        subst e
        simp at hy
        obtain ⟨g, hg, hxg⟩ := List.mem_flatten.1 hx
        obtain ⟨i, hi, rfl⟩ := a g hg
        obtain ⟨_, j, hj, e1⟩ := mem_cos.1 hy
        obtain ⟨_, j', hj', e2⟩ := mem_cos.1 hxg
        obtain ⟨q, hq, e3⟩ := span_inv h hJ hj
        obtain ⟨j1, j2⟩ := mem_span.1 hj
        obtain ⟨p1, p2⟩ := mem_span.1 hj'
        obtain ⟨q1, q2⟩ := mem_span.1 hq
        have hki : k ∈ cosN mul (spanL mul J m) m i := by
          refine mem_cos.2 ⟨by omega, mul j' q, mem_span.2 ⟨h.lt _ _ p1 q1, rch_mul h hJ p2 q2⟩, ?_⟩
          rw [← h.assoc _ _ _ (by omega) p1 q1, e2, ← e1, h.assoc _ _ _ (by omega) j1 q1, e3, h.comm _ _ (by omega) h.pos, h.one _ (by omega)]
        have : seenB mul (spanL mul J m) m k k = true := by
          unfold seenB
          exact List.any_eq_true.2 ⟨_, hg, by simpa using hki⟩
        rw [hs] at this
        cases this
      · rw [List.flatten_append]
        rcases Nat.lt_or_eq_of_le (Nat.le_of_lt_succ hx) with hx | rfl
        · exact List.mem_append_left _ (c x hx)
        · exact List.mem_append_right _ (by simpa using hown)
end
theorem flat_len {α : Type} {s : Nat} : ∀ (G : List (List α)), (∀ c ∈ G, c.length = s) → G.flatten.length = s * G.length
  | [], _ => by simp
  | c :: G, h => by
    rw [List.flatten_cons, List.length_append, flat_len G (fun c hc => h c (by simp [hc])), h c (by simp), List.length_cons, Nat.mul_succ, Nat.add_comm]
variable {d : Int}
theorem at_mul (D : Dsc d) {i k : Nat} (hi : i < (clsL d).length) (hk : k < (clsL d).length) : ∃ h : mulN d (clsL d) i k < (clsL d).length, (clsL d)[mulN d (clsL d) i k] = cmp d (clsL d)[i] (clsL d)[k] := by
  obtain ⟨h1, h2⟩ := mulN_eq D rfl hi hk
  exact gix_elem (D.cmpm (List.getElem_mem hi) (List.getElem_mem hk)) h1
theorem at_inj {i k : Nat} (hi : i < (clsL d).length) (hk : k < (clsL d).length) (h : (clsL d)[i] = (clsL d)[k]) : i = k := by
  have h1 := gix_get (clsL_nodup d) hi
  have h2 := gix_get (clsL_nodup d) hk
  rw [h] at h1
  omega
theorem at_zero (D : Dsc d) : ∃ h : 0 < (clsL d).length, (clsL d)[0] = oneF d := by
  obtain ⟨L', h⟩ := cls_head D
  refine ⟨by rw [h]; simp, ?_⟩
  simp only [h]
  rfl
theorem ng_cls (D : Dsc d) : NG (mulN d (clsL d)) (clsL d).length := by
  obtain ⟨h0, h1⟩ := at_zero D
  have hm : ∀ i (h : i < (clsL d).length), (clsL d)[i] ∈ clsL d := fun i h => List.getElem_mem h
  refine ⟨h0, fun i j hi hj => (at_mul D hi hj).1, fun i j hi hj => ?_, fun i j k hi hj hk => ?_, fun i hi => ?_, fun i j k hi hj hk e => ?_⟩
  · obtain ⟨a1, a2⟩ := at_mul D hi hj
    obtain ⟨b1, b2⟩ := at_mul D hj hi
    exact at_inj a1 b1 (by rw [a2, b2, D.comm (hm _ hi) (hm _ hj)])
  · obtain ⟨a1, a2⟩ := at_mul D hi hj
    obtain ⟨b1, b2⟩ := at_mul D a1 hk
    obtain ⟨c1, c2⟩ := at_mul D hj hk
    obtain ⟨d1, d2⟩ := at_mul D hi c1
    exact at_inj b1 d1 (by rw [b2, a2, d2, c2, D.assoc (hm _ hi) (hm _ hj) (hm _ hk)])
  · obtain ⟨a1, a2⟩ := at_mul D h0 hi
    exact at_inj a1 hi (by rw [a2, h1, D.one_mul (hm _ hi)])
  · obtain ⟨a1, a2⟩ := at_mul D hi hj
    obtain ⟨b1, b2⟩ := at_mul D hi hk
    have e2 : cmp d (clsL d)[i] (clsL d)[j] = cmp d (clsL d)[i] (clsL d)[k] := by
      rw [← a2, ← b2]
      simp only [e]
    exact at_inj hj hk (cmp_cl2 D (hm _ hi) (hm _ hj) (hm _ hk) e2)
/-- What the law asks of a list of class forms. -/
structure CoRow (d : Int) (zs : List Fm) (P : List Fm) (K : List (List Int)) : Prop where
  cs : CdL d zs K true
  gd : GdL d zs P true
  ds : isDisc d = true
  num : P.length * K.length = (clsL d).length
  len : ∀ c ∈ K, c.length = P.length
  nd : K.flatten.Nodup
  rng : ∀ x ∈ K.flatten, 0 ≤ x ∧ x < (clsL d).length
  gen : ∀ f ∈ zs, isCls f.a f.b f.c = true ∧ hasF P (red f) = true
  ord : ∀ f ∈ P, f ∈ clsL d ∧ ordF d f ∣ P.length
  bd : P.length ≤ 1640 ∧ K.length ≤ 1640 ∧ zs.length ≤ 20
theorem nats_flat : ∀ G : List (List Nat), (G.map nats).flatten = nats G.flatten
  | [] => rfl
  | c :: G => by
    rw [List.map_cons, List.flatten_cons, nats_flat G, List.flatten_cons]
    unfold nats
    rw [List.map_append]
theorem mem_genF {L : List Fm} {p : Nat → Bool} {m : Nat} (hm : m = L.length) {f : Fm} : f ∈ genF L p m ↔ ∃ i, ∃ h : i < L.length, p i = true ∧ L[i] = f := by
  subst hm
  unfold genF
  rw [List.mem_map]
  constructor
  · rintro ⟨i, hi, e⟩
    obtain ⟨h1, h2⟩ := List.mem_filter.1 hi
    have h3 := List.mem_range.1 h1
    exact ⟨i, h3, h2, by rw [← e, getD_at h3]⟩
  · rintro ⟨i, hi, hp, e⟩
    exact ⟨i, List.mem_filter.2 ⟨List.mem_range.2 hi, hp⟩, by rw [getD_at hi, e]⟩
theorem genF_span {L : List Fm} {mul : Nat → Nat → Nat} {J : List Nat} {m : Nat} : (genF L (rchB mul J) m).length = (spanL mul J m).length := by
  unfold genF spanL
  rw [List.length_map]
theorem genF_nd (p : Nat → Bool) : (genF (clsL d) p (clsL d).length).Nodup := by
  unfold genF List.Nodup
  rw [List.pairwise_map]
  refine List.Pairwise.imp_of_mem (fun ha hb hab he => hab ?_) (List.Nodup.sublist (l₂ := List.range (clsL d).length) List.filter_sublist List.nodup_range)
  have h1 := List.mem_range.1 (List.mem_filter.1 ha).1
  have h2 := List.mem_range.1 (List.mem_filter.1 hb).1
  rw [getD_at h1, getD_at h2] at he
  exact at_inj h1 h2 he
theorem co_row {zs : List Fm} (h : SgS d zs = true) : ∃ P K, CoRow d zs P K := by
  have hs := h
  unfold SgS at hs
  simp only [Bool.and_eq_true, decide_eq_true_eq] at hs
  obtain ⟨hd, h20, hall⟩ := hs
  have D := dsc_of hd
  have ng := ng_cls D
  have hz : ∀ f ∈ zs, isCls f.a f.b f.c = true ∧ disc f = d := fun f hf => by
    have := List.all_eq_true.1 hall f hf
    unfold okF at this
    simp only [Bool.and_eq_true, decide_eq_true_eq] at this
    exact this
  have hm : ∀ f ∈ zs, red f ∈ clsL d := fun f hf => by
    obtain ⟨h1, h2⟩ := hz f hf
    have := (CF.of_cls h1).mem
    have e : disc ⟨f.a, f.b, f.c⟩ = d := h2
    rw [e] at this
    exact this
  have hJ : ∀ j ∈ gensN (clsL d) zs, j < (clsL d).length := fun j hj => by
    obtain ⟨f, hf, rfl⟩ := List.mem_map.1 hj
    have := gix_bd (hm f hf)
    omega
  obtain ⟨a, b, c⟩ := cosS_ok ng hJ (clsL d).length (Nat.le_refl _)
  have hlen : ∀ c ∈ cosS (mulN d (clsL d)) (spanL (mulN d (clsL d)) (gensN (clsL d) zs) (clsL d).length) (clsL d).length (clsL d).length, c.length = (spanL (mulN d (clsL d)) (gensN (clsL d) zs) (clsL d).length).length := fun c hc => by
    obtain ⟨i, hi, rfl⟩ := a c hc
    exact cos_len ng hi
  have hlt : ∀ x ∈ (cosS (mulN d (clsL d)) (spanL (mulN d (clsL d)) (gensN (clsL d) zs) (clsL d).length) (clsL d).length (clsL d).length).flatten, x < (clsL d).length := fun x hx => by
    obtain ⟨g, hg, hxg⟩ := List.mem_flatten.1 hx
    obtain ⟨i, hi, rfl⟩ := a g hg
    exact (mem_cos.1 hxg).1
  have hcnt : (cosS (mulN d (clsL d)) (spanL (mulN d (clsL d)) (gensN (clsL d) zs) (clsL d).length) (clsL d).length (clsL d).length).flatten.length = (clsL d).length := by
    apply Nat.le_antisymm
    · have := b.length_le_of_subset (l₂ := List.range (clsL d).length) (fun x hx => List.mem_range.2 (hlt x hx))
      simpa using this
    · have := (List.nodup_range (n := (clsL d).length)).length_le_of_subset (l₂ := (cosS (mulN d (clsL d)) (spanL (mulN d (clsL d)) (gensN (clsL d) zs) (clsL d).length) (clsL d).length (clsL d).length).flatten) (fun x hx => c x (List.mem_range.1 hx))
      simpa using this
  rw [flat_len _ hlen] at hcnt
  refine ⟨_, _, .inr ⟨h, rfl, rfl⟩, .inr ⟨h, rfl, rfl⟩, hd, ?_, ?_, ?_, ?_, ?_, ?_, ?_⟩
  · rw [genF_span, List.length_map]
    exact hcnt
  · intro c hc
    obtain ⟨g, hg, rfl⟩ := List.mem_map.1 hc
    rw [nats_len, genF_span]
    exact hlen g hg
  · rw [nats_flat]
    unfold nats List.Nodup
    rw [List.pairwise_map]
    exact List.Pairwise.imp (fun hab he => hab (Int.ofNat.inj he)) b
  · intro x hx
    rw [nats_flat] at hx
    obtain ⟨i, hi, rfl⟩ := List.mem_map.1 hx
    have := hlt i hi
    show 0 ≤ (i : Int) ∧ (i : Int) < _
    omega
  · intro f hf
    refine ⟨(hz f hf).1, hasF_mem.2 ((mem_genF rfl).2 ?_)⟩
    obtain ⟨n, hn, e1, e2⟩ := gix_mem (hm f hf)
    refine ⟨n, hn, rchB_iff.2 ?_, e1⟩
    have hj : n ∈ gensN (clsL d) zs := List.mem_map.2 ⟨f, hf, by rw [e2]; rfl⟩
    have := Rch.step (mul := mulN d (clsL d)) (Rch.zero (J := gensN (clsL d) zs)) hj
    rwa [ng.one _ hn] at this
  · intro f hf
    obtain ⟨i, hi, hp, e⟩ := (mem_genF rfl).1 hf
    have hfm : f ∈ clsL d := e ▸ List.getElem_mem hi
    refine ⟨hfm, ?_⟩
    have hmem : ∀ {g : Fm}, g ∈ genF (clsL d) (rchB (mulN d (clsL d)) (gensN (clsL d) zs)) (clsL d).length ↔ ∃ i, ∃ h : i < (clsL d).length, Rch (mulN d (clsL d)) (gensN (clsL d) zs) i ∧ (clsL d)[i] = g := fun {g} => by
      rw [mem_genF rfl]
      simp only [rchB_iff]
    have hnd := genF_nd (d := d) (rchB (mulN d (clsL d)) (gensN (clsL d) zs))
    generalize genF (clsL d) (rchB (mulN d (clsL d)) (gensN (clsL d) zs)) (clsL d).length = P at hf hmem hnd
    have hsub : (clG D).Sub ((clsL d).attach.filter fun x => decide (x.1 ∈ P)) := by
      refine ⟨List.Nodup.sublist List.filter_sublist (clG_all D).nd, ?_, fun x hx y hy => ?_, fun x hx => ?_⟩
      · refine List.mem_filter.2 ⟨List.mem_attach _ _, decide_eq_true ?_⟩
        obtain ⟨z1, z2⟩ := at_zero D
        exact hmem.2 ⟨0, z1, .zero, z2⟩
      · refine List.mem_filter.2 ⟨List.mem_attach _ _, decide_eq_true ?_⟩
        obtain ⟨i1, i2, i3, i4⟩ := hmem.1 (of_decide_eq_true (List.mem_filter.1 hx).2)
        obtain ⟨k1, k2, k3, k4⟩ := hmem.1 (of_decide_eq_true (List.mem_filter.1 hy).2)
        obtain ⟨m1, m2⟩ := at_mul D i2 k2
        exact hmem.2 ⟨_, m1, rch_mul ng hJ i3 k3, by rw [m2, i4, k4]; rfl⟩
      · refine List.mem_filter.2 ⟨List.mem_attach _ _, decide_eq_true ?_⟩
        obtain ⟨i1, i2, i3, i4⟩ := hmem.1 (of_decide_eq_true (List.mem_filter.1 hx).2)
        obtain ⟨k, hk, e0⟩ := span_inv ng hJ (mem_span.2 ⟨i2, i3⟩)
        obtain ⟨k1, k2⟩ := mem_span.1 hk
        obtain ⟨m1, m2⟩ := at_mul D i2 k1
        obtain ⟨z1, z2⟩ := at_zero D
        have e1 : cmp d x.1 (clsL d)[k] = oneF d := by
          rw [← i4, ← m2, ← z2]
          simp only [e0]
        have e2 := (clG D).inv_uniq (x := x) (y := ⟨(clsL d)[k], List.getElem_mem k1⟩) (Subtype.ext e1)
        rw [← e2]
        exact hmem.2 ⟨k, k1, k2, rfl⟩
    have hl : ((clsL d).attach.filter fun x => decide (x.1 ∈ P)).length = P.length := by
      have h1 : (((clsL d).attach.filter fun x => decide (x.1 ∈ P)).map Subtype.val).Nodup := by
        unfold List.Nodup
        rw [List.pairwise_map]
        exact List.Pairwise.imp (fun hab he => hab (Subtype.ext he)) hsub.nd
      have := Ab.len_eq h1 hnd (fun x hx => by
        obtain ⟨y, hy, rfl⟩ := List.mem_map.1 hx
        exact of_decide_eq_true (List.mem_filter.1 hy).2) (fun x hx => by
        obtain ⟨i, hi, _, e⟩ := hmem.1 hx
        exact List.mem_map.2 ⟨⟨x, e ▸ List.getElem_mem hi⟩, List.mem_filter.2 ⟨List.mem_attach _ _, decide_eq_true hx⟩, rfl⟩)
      simpa using this
    have ho := clG_ord D ⟨f, hfm⟩
    have := (clG D).ord_dvd hsub (f := fun x => ordF d x.1) (fun x _ => ⟨(clG_ord D x).1, (clG_ord D x).2.1⟩) (x := ⟨f, hfm⟩) (List.mem_filter.2 ⟨List.mem_attach _ _, decide_eq_true hf⟩) ho.1 ho.2.1 ho.2.2
    rw [hl] at this
    exact this
  · refine ⟨Nat.le_trans (genF_len _ _ _) (clsL_len d), ?_, h20⟩
    rw [List.length_map]
    exact Nat.le_trans (cosS_len _) (clsL_len d)
end Go.Proofs.YteehcjjhkphdnaaGreat
