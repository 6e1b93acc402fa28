/- Plain facts: the reference's test of an element of the basis is okB. -/
import Derived.Test.YtkkamlhpappebaaSS
import Derived.Test.YtkkamlhpappebaaZY
namespace Go.Proofs.Ytkkamlhpappebaa

theorem one_iff {p : Nat → Bool} {m : Nat} (h0 : 0 < m) (hp : p 0 = true) : ((List.range m).filter p).length = 1 ↔ ∀ x, x < m → p x = true → x = 0 := by
  have hm : 0 ∈ (List.range m).filter p := List.mem_filter.2 ⟨List.mem_range.2 h0, hp⟩
  have hn : ((List.range m).filter p).Nodup := List.Nodup.sublist List.filter_sublist List.nodup_range
  constructor
  · intro h x hx hpx
    obtain ⟨y, hy⟩ := List.length_eq_one_iff.1 h
    have h1 : x ∈ (List.range m).filter p := List.mem_filter.2 ⟨List.mem_range.2 hx, hpx⟩
    rw [hy] at h1 hm
    simp at h1 hm
    omega
  · intro h
    have h1 := hn.length_le_of_subset (l₂ := [0]) (fun x hx => by
      obtain ⟨a, b⟩ := List.mem_filter.1 hx
      rw [h x (List.mem_range.1 a) b]
      simp)
    have h2 := List.length_pos_of_mem hm
    simp at h1
    omega
/-- How many of what i generates are among what J generates. -/
noncomputable def cmnN (d : Int) (J : List Nat) (i : Nat) : Nat := ((spanL (mulN d (clsL d)) [i] (clsL d).length).filter (rchB (mulN d (clsL d)) J)).length
theorem ok_cmn {d : Int} (D : Dsc d) (J : List Nat) (n : Int) (i : Nat) : okB d J n i = (decide ((ordF d ((clsL d).getD i ⟨0, 0, 0⟩) : Int) = n) && decide (cmnN d J i = 1)) := by
  have h0 := (ng_cls D).pos
  have hz : ∀ J : List Nat, rchB (mulN d (clsL d)) J 0 = true := fun J => rchB_iff.2 .zero
  unfold okB
  congr 1
  rw [Bool.eq_iff_iff, List.all_eq_true, decide_eq_true_eq]
  have e : cmnN d J i = ((List.range (clsL d).length).filter fun x => rchB (mulN d (clsL d)) J x && rchB (mulN d (clsL d)) [i] x).length := by
    unfold cmnN spanL
    rw [List.filter_filter]
  rw [e, one_iff h0 (by simp [hz])]
  constructor
  · intro h x hx hp
    have h1 := h x (List.mem_range.2 hx)
    rw [Bool.and_eq_true] at hp
    rw [hp.1, hp.2] at h1
    simpa using h1
  · intro h x hx
    have h1 := h x (List.mem_range.1 hx)
    cases ha : rchB (mulN d (clsL d)) [i] x <;> cases hb : rchB (mulN d (clsL d)) J x <;> simp_all
theorem has_span {d : Int} {J : List Nat} {x : Nat} (hx : x < (clsL d).length) : hasI (nats (spanL (mulN d (clsL d)) J (clsL d).length)) (x : Int) = rchB (mulN d (clsL d)) J x := by
  unfold hasI
  rw [Bool.eq_iff_iff, decide_eq_true_eq]
  unfold nats spanL
  rw [List.mem_map]
  constructor
  · rintro ⟨y, hy, e⟩
    have e2 : (y : Int) = x := e
    have : y = x := by omega
    subst this
    exact (List.mem_filter.1 hy).2
  · intro h
    exact ⟨x, List.mem_filter.2 ⟨List.mem_range.2 hx, h⟩, rfl⟩
theorem fac_nats {d : Int} (D : Dsc d) : nats (facN d) = (invL d).reverse := facN_int D
theorem fac_get {d : Int} (D : Dsc d) {t a : Nat} (h : (facN d).length = a + 1 + t) (h2 : a < (nats (facN d)).length) : (nats (facN d))[a] = (invL d).getD t 1 := by
  have hl := facN_len d
  have e : (nats (facN d))[a]? = (invL d).reverse[a]? := by rw [fac_nats D]
  rw [List.getElem?_eq_getElem h2, List.getElem?_reverse (by omega), show (invL d).length - 1 - a = t by omega, List.getElem?_eq_getElem (by omega)] at e
  injection e with e
  rw [e, List.getD_eq_getElem?_getD, List.getElem?_eq_getElem (by omega)]
  rfl
end Go.Proofs.Ytkkamlhpappebaa
