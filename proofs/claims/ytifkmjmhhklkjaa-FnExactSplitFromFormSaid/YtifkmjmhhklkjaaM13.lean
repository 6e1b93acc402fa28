/- Plain facts: the powers of a class form come to the identity. No program in sight. -/
import Derived.Test.YtifkmjmhhklkjaaM12
namespace Go.Proofs.Ytifkmjmhhklkjaa

open Classical in
/-- The composite. -/
noncomputable def cmp (d : Int) (f g : Fm) : Fm := if h : ∃ r, IsCmp d f g r then h.choose else f
theorem cmp_is {d : Int} {f g : Fm} (h1 : -2000 ≤ d) (h2 : d ≤ -3) (h4 : d % 4 < 2) (hf : f ∈ clsL d) (hg : g ∈ clsL d) : IsCmp d f g (cmp d f g) := by
  have h := cmp_ex h1 h2 h4 hf hg
  unfold cmp
  rw [dif_pos h]
  exact h.choose_spec
theorem cmp_of {d : Int} {f g r : Fm} (h1 : -2000 ≤ d) (h2 : d ≤ -3) (h4 : d % 4 < 2) (h : IsCmp d f g r) : cmp d f g = r := by
  have hx : ∃ r, IsCmp d f g r := ⟨r, h⟩
  unfold cmp
  rw [dif_pos hx]
  exact hx.choose_spec.uniq h1 h2 h4 h
/-- An identity form: its first coefficient is 1. -/
theorem cmp_one {d : Int} {f o : Fm} (h1 : -2000 ≤ d) (h4 : d % 4 < 2) (hf : f ∈ clsL d) (ho : o.a = 1) : IsCmp d f o f := by
  obtain ⟨⟨_, _, f3, _, _⟩, _⟩ := mem_clsL h1 hf
  have e := sn h4
  refine ⟨hf, Hom.of ?_⟩
  have u : Pr (sD d) (nD d) (IF (sD d) f) (Id 1 (hF (sD d) o)) = IF (sD d) f := Id.unit (hF_norm (by omega)) _
  unfold IF at *
  rw [ho]; exact u
/-- The powers come to the identity. -/
theorem order_ex {d : Int} {f o : Fm} (h1 : -2000 ≤ d) (h2 : d ≤ -3) (h4 : d % 4 < 2) (hf : f ∈ clsL d) (ho : o ∈ clsL d) (ho1 : o.a = 1) :
    ∃ k, k < (clsL d).length ∧ itN (fun p => cmp d p f) k f = o := by
  have hmap : ∀ p ∈ clsL d, cmp d p f ∈ clsL d := fun p hp => (cmp_is h1 h2 h4 hp hf).1
  have hinj : ∀ p ∈ clsL d, ∀ q ∈ clsL d, cmp d p f = cmp d q f → p = q := fun p hp q hq he => by
    have k1 := cmp_is h1 h2 h4 hp hf
    have k2 := cmp_is h1 h2 h4 hq hf
    rw [← he] at k2
    exact k1.inj h1 h2 h4 hp hq hf k2
  obtain ⟨k, k1, k2, k3⟩ := itN_orbit hmap hinj ho
  have s1 : cmp d o f = f := cmp_of h1 h2 h4 (cmp_one h1 h4 hf ho1).comm
  refine ⟨k - 1, by omega, ?_⟩
  have sh : ∀ j, itN (fun p => cmp d p f) (j + 1) o = itN (fun p => cmp d p f) j f := by
    intro j
    induction j with
    | zero => exact s1
    | succ j ih => show cmp d (itN _ (j + 1) o) f = _; rw [ih]; rfl
  rw [← sh, show k - 1 + 1 = k by omega]
  exact k3
end Go.Proofs.Ytifkmjmhhklkjaa
