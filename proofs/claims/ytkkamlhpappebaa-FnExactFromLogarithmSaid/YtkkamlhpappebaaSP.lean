/- Plain facts: the program's test of an element of the basis is okB. -/
import Derived.Test.YtkkamlhpappebaaSM
import Derived.Test.YtkkamlhpappebaaKT
namespace Go.Proofs.Ytkkamlhpappebaa

section
variable {d : Int}
theorem rch_one (D : Dsc d) {i : Nat} (hi : i < (clsL d).length) : ∀ (k x : Nat), x < (clsL d).length → elN D x = (clG D).pw (elN D i) k → Rch (mulN d (clsL d)) [i] x
  | 0, x, hx, h => by
    have : x = 0 := elN_inj D hx (ng_cls D).pos (by rw [h, elN_zero]; rfl)
    subst this; exact .zero
  | k + 1, x, hx, h => by
    obtain ⟨y, hy, e⟩ := elN_ex D ((clG D).pw (elN D i) k)
    have h1 := rch_one D hi k y hy e
    have : x = mulN d (clsL d) y i := elN_inj D hx ((ng_cls D).lt _ _ hy hi) (by rw [h, elN_mul D hy hi, e, Ab.pw, (clG D).comm])
    rw [this]
    exact .step h1 (by simp)
theorem ok_meets (D : Dsc d) {J : List Nat} {n : Int} {i : Nat} (hi : i < (clsL d).length) :
    okB d J n i = (decide ((ordF d (clsL d)[i] : Int) = n) && (pwI d (clsL d) (clsL d)[i] (ordF d (clsL d)[i])).tail.all fun x => !rchB (mulN d (clsL d)) J x.toNat) := by
  have hf : (clsL d)[i] ∈ clsL d := List.getElem_mem hi
  have hg : (clsL d).getD i ⟨0, 0, 0⟩ = (clsL d)[i] := by rw [List.getD_eq_getElem?_getD, List.getElem?_eq_getElem hi]; rfl
  have hO := clG_ord D (elN D i)
  rw [elN_val D hi] at hO
  unfold okB
  rw [hg]
  congr 1
  rw [Bool.eq_iff_iff, List.all_eq_true, List.all_eq_true]
  have hix : ∀ k, ∃ y, ∃ h : y < (clsL d).length, (gix (clsL d) (pw d (clsL d)[i] k)).toNat = y ∧ elN D y = (clG D).pw (elN D i) k := fun k => by
    have hb := gix_bd (D.pwm hf k)
    obtain ⟨h1, h2⟩ := gix_elem (D.pwm hf k) (n := (gix (clsL d) (pw d (clsL d)[i] k)).toNat) (by omega)
    refine ⟨_, h1, rfl, Subtype.ext ?_⟩
    rw [elN_val D h1, h2, clG_pw, elN_val D hi]
  constructor
  · intro h x hx
    obtain ⟨j, hj, rfl⟩ := List.getElem_of_mem hx
    rw [List.length_tail, pwI_len] at hj
    have e : (pwI d (clsL d) (clsL d)[i] (ordF d (clsL d)[i])).tail[j]'(by rw [List.length_tail, pwI_len]; exact hj) = gix (clsL d) (pw d (clsL d)[i] (j + 1)) := by
      rw [List.getElem_tail]; unfold pwI; simp
    rw [e]
    obtain ⟨y, hy, e1, e2⟩ := hix (j + 1)
    rw [e1]
    have h2 := h y (List.mem_range.2 hy)
    have h3 : rchB (mulN d (clsL d)) [i] y = true := rchB_iff.2 (rch_one D hi (j + 1) y hy e2)
    rw [h3, Bool.true_and] at h2
    cases hr : rchB (mulN d (clsL d)) J y with
    | false => rfl
    | true =>
      rw [hr] at h2
      have : y = 0 := by simpa using h2
      subst this
      rw [elN_zero] at e2
      exact absurd e2.symm (hO.2.2 (j + 1) (by omega) (by omega))
  · intro h x hx
    have hxm := List.mem_range.1 hx
    cases hr : rchB (mulN d (clsL d)) [i] x with
    | false => simp
    | true =>
      cases hr2 : rchB (mulN d (clsL d)) J x with
      | false => simp
      | true =>
        obtain ⟨k, hk⟩ := rch_pw D hi (rchB_iff.1 hr)
        have hmod : (clG D).pw (elN D i) k = (clG D).pw (elN D i) (k % ordF d (clsL d)[i]) := by
          conv => lhs; rw [← Nat.div_add_mod k (ordF d (clsL d)[i])]
          rw [Ab.pw_add, Ab.pw_mul, hO.2.1, Ab.pw_one, Ab.one_mul]
        rw [hmod] at hk
        by_cases h0 : k % ordF d (clsL d)[i] = 0
        · rw [h0] at hk
          have : x = 0 := elN_inj D hxm (ng_cls D).pos (by rw [hk, elN_zero]; rfl)
          simp [this]
        · exfalso
          have hlt := Nat.mod_lt k hO.1
          obtain ⟨y, hy, e1, e2⟩ := hix (k % ordF d (clsL d)[i])
          have hxy : x = y := elN_inj D hxm hy (hk.trans e2.symm)
          have hm : gix (clsL d) (pw d (clsL d)[i] (k % ordF d (clsL d)[i])) ∈ (pwI d (clsL d) (clsL d)[i] (ordF d (clsL d)[i])).tail := by
            obtain ⟨j, hj⟩ : ∃ j, k % ordF d (clsL d)[i] = j + 1 := ⟨k % ordF d (clsL d)[i] - 1, by omega⟩
            have hl : j < (pwI d (clsL d) (clsL d)[i] (ordF d (clsL d)[i])).tail.length := by rw [List.length_tail, pwI_len]; omega
            have e : (pwI d (clsL d) (clsL d)[i] (ordF d (clsL d)[i])).tail[j] = gix (clsL d) (pw d (clsL d)[i] (j + 1)) := by
              rw [List.getElem_tail]; unfold pwI; simp
            rw [hj, ← e]
            exact List.getElem_mem hl
          have h2 := h _ hm
          rw [e1, ← hxy, hr2] at h2
          simp at h2
end
end Go.Proofs.Ytkkamlhpappebaa
