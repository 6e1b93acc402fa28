/- Plain facts: what is chosen is a basis. -/
import Derived.Test.YtkkamlhpappebaaSP
namespace Go.Proofs.Ytkkamlhpappebaa

section
variable {d : Int}
theorem ok_ind (D : Dsc d) {J : List Nat} (hJ : ∀ j ∈ J, j < (clsL d).length) {i n : Nat} (hi : i < (clsL d).length) (h : okB d J (n : Int) i = true) :
    ∃ T, (clG D).Sub T ∧ (∀ j ∈ J.map (elN D), j ∈ T) ∧ (clG D).Ind T (elN D i) n := by
  obtain ⟨T, t1, t2, t3, t4, t5⟩ := (clG D).span_ex (clG_all D) (clG_tor D) (J.map (elN D)) (fun j _ => List.mem_attach _ _)
  have ng := ng_cls D
  refine ⟨T, t1, t3, (ind_iff t1).2 ?_⟩
  unfold okB at h
  rw [Bool.and_eq_true, decide_eq_true_eq, List.all_eq_true] at h
  obtain ⟨h1, h2⟩ := h
  have hg : (clsL d).getD i ⟨0, 0, 0⟩ = (clsL d)[i] := by rw [List.getD_eq_getElem?_getD, List.getElem?_eq_getElem hi]; rfl
  have hO := clG_ord D (elN D i)
  rw [hg] at h1
  rw [elN_val D hi, show ordF d (clsL d)[i] = n by omega] at hO
  refine ⟨hO, fun k hk => ?_⟩
  obtain ⟨y, hy, e⟩ := elN_ex D ((clG D).pw (elN D i) k)
  have hr1 : Rch (mulN d (clsL d)) [i] y := rch_one D hi k y hy e
  have hr2 : Rch (mulN d (clsL d)) J y := by
    refine t4 (fun z => ∀ y, y < (clsL d).length → elN D y = z → Rch (mulN d (clsL d)) J y) ?_ ?_ _ hk y hy e
    · intro y hy e
      have : y = 0 := elN_inj D hy ng.pos (by rw [e, elN_zero])
      subst this; exact .zero
    · intro z hz g hg y hy e
      obtain ⟨j, hj, rfl⟩ := List.mem_map.1 hg
      obtain ⟨y', hy', e'⟩ := elN_ex D z
      have h3 := hz y' hy' e'
      have : y = mulN d (clsL d) y' j := elN_inj D hy (ng.lt _ _ hy' (hJ j hj)) (by rw [e, elN_mul D hy' (hJ j hj), e'])
      rw [this]
      exact .step h3 hj
  have h3 := h2 y (List.mem_range.2 hy)
  rw [rchB_iff.2 hr1, rchB_iff.2 hr2] at h3
  have : y = 0 := by simpa using h3
  subst this
  rw [← e, elN_zero]
/-- The chosen elements are a basis, with the factors as orders. -/
theorem bas_of (D : Dsc d) : ∀ t, (clG D).Bas (clsL d).attach ((bsN d t).map (elN D)) ((List.range t).reverse.map fun j => ((invL d).getD j 1).toNat)
  | 0 => .nil
  | t + 1 => by
    obtain ⟨hm, i, hi, hok, _, e⟩ := bsN_step D t
    obtain ⟨n, hn0, hn⟩ := inv_nat D t
    rw [hn] at hok
    obtain ⟨T, t1, t2, t3⟩ := ok_ind D hm hi hok
    rw [e, List.map_cons, List.range_succ, List.reverse_append, List.reverse_singleton, List.singleton_append, List.map_cons, hn, Int.toNat_natCast]
    exact .cons (bas_of D t) (List.mem_attach _ _) t1 t2 t3
end
end Go.Proofs.Ytkkamlhpappebaa
