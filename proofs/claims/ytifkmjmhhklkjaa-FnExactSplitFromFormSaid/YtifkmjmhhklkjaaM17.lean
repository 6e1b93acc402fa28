/- Plain facts: the inverse of a class; a class whose square is the identity has an ambiguous reduced form. No program in sight. -/
import Derived.Test.YtifkmjmhhklkjaaM16
namespace Go.Proofs.Ytifkmjmhhklkjaa

def oppF (f : Fm) : Fm := ⟨f.a, -f.b, f.c⟩
theorem opp_disc (f : Fm) : disc (oppF f) = disc f := by unfold disc oppF; simp only; grind
theorem opp_prm {f : Fm} (h : Int.gcd f.a (Int.gcd f.b f.c) = 1) : Int.gcd (oppF f).a (Int.gcd (oppF f).b (oppF f).c) = 1 := by
  rw [prm_iff] at *
  intro m h1 h2 h3
  exact h m h1 (Int.dvd_neg.1 h2) h3
theorem opp_def {M : Int} {f : Fm} (h : Def M f) : Def M (oppF f) := ⟨h.a0, h.aM, h.c0, h.cM, by have := h.d; simp only [oppF]; rw [Int.neg_mul_neg]; exact this⟩
theorem opp_hF {s n : Int} {f : Fm} (h : disc f = s * s - 4 * n) : hF s (oppF f) = s - hF s f := by
  have h1 := hF_two h
  have h2 := hF_two (f := oppF f) (by rw [opp_disc]; exact h)
  have e : (oppF f).b = -f.b := rfl
  omega
variable {d : Int}
theorem Dsc.opp_mem (D : Dsc d) {M : Int} {f : Fm} (hf : f ∈ clsL d) (hd : Def M f) : red (oppF f) ∈ clsL d := by
  obtain ⟨⟨f1, _, f3, f4, _⟩, f5⟩ := mem_clsL D.lo hf
  have hd2 := opp_def hd
  exact mem_clsL_of D.lo (red_def hd2).a0 ((red_disc hd2).trans ((opp_disc f).trans f3)) (red_isRed hd2) (red_prm hd2 (opp_prm f5))
theorem Dsc.inv (D : Dsc d) {M : Int} {f : Fm} (hf : f ∈ clsL d) (hd : Def M f) : cmp d f (red (oppF f)) = oneF d := by
  apply D.of
  obtain ⟨⟨f1, _, f3, f4, _⟩, f5⟩ := mem_clsL D.lo hf
  have es := sn D.md
  have hfd : disc f = sD d * sD d - 4 * nD d := by omega
  obtain ⟨x, y, z, hxyz⟩ := bez3 f5
  have f2 := hF_two hfd
  have fn := hF_norm hfd
  have e : Pr (sD d) (nD d) (IF (sD d) f) (Id f.a (sD d - hF (sD d) f)) = Sc (sD d) (nD d) ⟨f.a, 0⟩ (Id 1 0) := Id.inv (x := x) (y := y) (z := z) fn (by rw [f2]; simpa using hxyz)
  have e2 : IF (sD d) (oppF f) = Id f.a (sD d - hF (sD d) f) := by unfold IF; rw [opp_hF hfd]; rfl
  have R := red_hom (s := sD d) (n := nD d) (opp_def hd) (by rw [opp_disc]; exact hfd)
  have o : IF (sD d) (oneF d) = Id 1 0 := by
    unfold IF oneF
    funext w
    exact propext ⟨fun _ => ⟨_, (Int.one_mul _).symm⟩, fun _ => ⟨_, (Int.one_mul _).symm⟩⟩
  refine ⟨D.one, ?_⟩
  refine (Hom.pr2 (Hom.refl _) R.symm).trans ?_
  rw [e2, e, o]
  exact Hom.sc (by simp only [eN]; intro h0; simp at h0; exact Int.mul_ne_zero (show f.a ≠ 0 by omega) (show f.a ≠ 0 by omega) h0)
theorem opp_red {f : Fm} (hr : isRed f.a f.b f.c = true) (h1 : f.a ≠ f.b) (h2 : f.a ≠ f.c) : isRed (oppF f).a (oppF f).b (oppF f).c = true := by
  have := (isRed_iff _ _ _).1 hr
  rw [isRed_iff]
  unfold oppF
  simp only
  omega
theorem Dsc.amb (D : Dsc d) {M : Int} {f : Fm} (hf : f ∈ clsL d) (hd : Def M f) (h : cmp d f f = oneF d) : f.b = 0 ∨ f.a = f.b ∨ f.a = f.c := by
  by_cases h1 : f.a = f.b
  · exact .inr (.inl h1)
  · by_cases h2 : f.a = f.c
    · exact .inr (.inr h2)
    · left
      have hm := D.opp_mem hf hd
      have e1 : cmp d (red (oppF f)) f = oneF d := by rw [D.comm hm hf]; exact D.inv hf hd
      have e2 := D.cancel hm hf hf (e1.trans h.symm)
      obtain ⟨⟨_, _, _, f4, _⟩, _⟩ := mem_clsL D.lo hf
      have e3 := red_of (opp_red f4 h1 h2)
      rw [e3] at e2
      have e4 : (oppF f).b = f.b := by rw [e2]
      have e5 : (oppF f).b = -f.b := rfl
      omega
theorem Dsc.half_amb (D : Dsc d) {M : Int} {f r : Fm} {h : Nat} (hf : f ∈ clsL d) (hd : Def M r) (ho : IsOrd d f (2 * h)) (hr : pw d f h = r) : r.b = 0 ∨ r.a = r.b ∨ r.a = r.c := by
  have hm : r ∈ clsL d := hr ▸ D.pwm hf h
  refine D.amb hm hd ?_
  rw [← hr, ← D.pw_add hf, show h + h = 2 * h by omega]
  exact ho.2.1
end Go.Proofs.Ytifkmjmhhklkjaa
