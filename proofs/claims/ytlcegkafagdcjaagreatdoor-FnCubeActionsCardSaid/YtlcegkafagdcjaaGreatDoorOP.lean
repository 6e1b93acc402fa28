/- Plain facts: the opposite form lies in the inverse class. -/
import Derived.Test.YtlcegkafagdcjaaGreatDoorSX
import Derived.Test.YtlcegkafagdcjaaGreatDoorR1
namespace Go.Proofs.YtlcegkafagdcjaaGreatDoor

/-- The opposite form lies in the inverse class. -/
theorem CF.inv0 {d : Int} {f0 f : Fm} (h : CF d f0 f) (hp : Int.gcd f0.a (Int.gcd f0.b f0.c) = 1) : Go.Proofs.YtlcegkafagdcjaaGreatDoor.cmp d f (red (oppF f0)) = oneF d := by
  have D := h.D
  apply D.of
  have f1 := h.df.a0
  have f3 := h.dc
  have es := sn D.md
  have hfd : disc f0 = sD d * sD d - 4 * nD d := by omega
  obtain ⟨x, y, z, hxyz⟩ := bez3 hp
  have f2 := hF_two hfd
  have fn := hF_norm hfd
  have e : Pr (sD d) (nD d) (IF (sD d) f0) (Id f0.a (sD d - hF (sD d) f0)) = Sc (sD d) (nD d) ⟨f0.a, 0⟩ (Id 1 0) := Id.inv (x := x) (y := y) (z := z) fn (by rw [f2]; simpa using hxyz)
  have e2 : IF (sD d) (oppF f0) = Id f0.a (sD d - hF (sD d) f0) := by unfold IF; rw [opp_hF hfd]; rfl
  have R := red_hom (s := sD d) (n := nD d) (opp_def h.df) (by rw [opp_disc]; exact hfd)
  have R0 := red_hom (s := sD d) (n := nD d) h.df hfd
  rw [h.rd] at R0
  have o : IF (sD d) (oneF d) = Id 1 0 := by
    unfold IF oneF
    funext w
    exact propext ⟨fun _ => ⟨_, (Int.one_mul _).symm⟩, fun _ => ⟨_, (Int.one_mul _).symm⟩⟩
  refine ⟨D.one, ?_⟩
  refine (Hom.pr2 R0.symm R.symm).trans ?_
  rw [e2, e, o]
  exact Hom.sc (by simp only [eN]; intro h0; simp at h0; exact Int.mul_ne_zero (show f0.a ≠ 0 by omega) (show f0.a ≠ 0 by omega) h0)
theorem CF.opp0 {d : Int} {f0 f : Fm} (h : CF d f0 f) (hp : Int.gcd f0.a (Int.gcd f0.b f0.c) = 1) : red (oppF f0) = red (oppF f) ∧ CF d (oppF f0) (red (oppF f)) := by
  have D := h.D
  have hd2 := opp_def h.df
  have hm : red (oppF f0) ∈ clsL d := mem_clsL_of D.lo (red_def hd2).a0 ((red_disc hd2).trans ((opp_disc f0).trans h.dc)) (red_isRed hd2) (red_prm hd2 (opp_prm hp))
  have hm2 : red (oppF f) ∈ clsL d := D.opp_mem h.mem (CF.of_mem D h.mem).df
  have e : red (oppF f0) = red (oppF f) := by
    have h1 := h.inv0 hp
    have h2 := D.inv h.mem (CF.of_mem D h.mem).df
    have := (clG D).cancel (x := ⟨f, h.mem⟩) (y := ⟨red (oppF f0), hm⟩) (z := ⟨red (oppF f), hm2⟩) (Subtype.ext (h1.trans h2.symm))
    exact congrArg Subtype.val this
  have eb : (oppF f0).b * (oppF f0).b = f0.b * f0.b := by simp only [oppF]; rw [Int.neg_mul_neg]
  exact ⟨e, ⟨D, hd2, e, hm2, (opp_disc f0).trans h.dc, by rw [eb]; exact h.b1, h.b2, h.b3⟩⟩
end Go.Proofs.YtlcegkafagdcjaaGreatDoor
