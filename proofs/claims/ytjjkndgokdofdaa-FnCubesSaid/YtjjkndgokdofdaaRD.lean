/- Plain facts: the composite of the classes of a cube's three forms is the identity. No program in sight. -/
import Derived.Test.YtjjkndgokdofdaaOP
import Derived.Test.YtjjkndgokdofdaaRC
namespace Go.Proofs.Ytjjkndgokdofdaa

theorem cube_one {d : Int} {k : Cu} {r1 r2 r3 : Fm} (h1 : CF d (cuF k) r1) (h2 : CF d (cuF2 k) r2) (h3 : CF d (cuF3 k) r3)
    (hp1 : Int.gcd (cuF k).a (Int.gcd (cuF k).b (cuF k).c) = 1) (hp3 : Int.gcd (cuF3 k).a (Int.gcd (cuF3 k).b (cuF3 k).c) = 1) :
    cmp d (cmp d r1 r2) r3 = oneF d := by
  have D := h1.D
  apply D.of
  have es := sn D.md
  have d1 : disc (cuF k) = sD d * sD d - 4 * nD d := by have := h1.dc; omega
  have d2 : disc (cuF2 k) = sD d * sD d - 4 * nD d := by have := h2.dc; omega
  have d3 : disc (cuF3 k) = sD d * sD d - 4 * nD d := by have := h3.dc; omega
  have R1 := red_hom (s := sD d) (n := nD d) h1.df d1
  have R2 := red_hom (s := sD d) (n := nD d) h2.df d2
  have R3 := red_hom (s := sD d) (n := nD d) h3.df d3
  rw [h1.rd] at R1
  rw [h2.rd] at R2
  rw [h3.rd] at R3
  have hc := (cmp_is D.lo D.hi D.md h1.mem h2.mem).2
  have p1 := h1.df.a0
  have p2 := h2.df.a0
  have p3 := h3.df.a0
  obtain ⟨x, y, z, hx⟩ := bez3 hp1
  obtain ⟨x3, y3, z3, hx3⟩ := bez3 hp3
  have t1 := hF_two d1
  have t2 := hF_two d2
  have t3 := hF_two d3
  have n1 := hF_norm d1
  have n3 := hF_norm d3
  have tri : Hom (sD d) (nD d) (Pr (sD d) (nD d) (IF (sD d) (cuF k)) (IF (sD d) (cuF2 k))) (Id (cuF3 k).a (sD d - hF (sD d) (cuF3 k))) :=
    cube_pr (a := k.a) (b := k.b) (c := k.c) (d := k.d) (e := k.e) (f := k.f) (g := k.g) (h := k.h) (h1 := hF (sD d) (cuF k)) (h2 := hF (sD d) (cuF2 k)) (h3 := hF (sD d) (cuF3 k)) (x := x) (y := y) (z := z)
      (by rw [t1]; show _ + sD d - sD d = _; rw [Int.add_sub_cancel]; rfl) (by rw [t2]; show _ + sD d - sD d = _; rw [Int.add_sub_cancel]; rfl) (by rw [t3]; show _ + sD d - sD d = _; rw [Int.add_sub_cancel]; rfl)
      n1 (by show (cuF k).a ≠ 0; omega) (by show (cuF2 k).a ≠ 0; omega) (by show (cuF3 k).a ≠ 0; omega) (by rw [t1, Int.add_sub_cancel]; exact hx)
  have e : Pr (sD d) (nD d) (IF (sD d) (cuF3 k)) (Id (cuF3 k).a (sD d - hF (sD d) (cuF3 k))) = Sc (sD d) (nD d) ⟨(cuF3 k).a, 0⟩ (Id 1 0) := Id.inv (x := x3) (y := y3) (z := z3) n3 (by rw [t3]; simpa using hx3)
  have o : IF (sD d) (oneF d) = Id 1 0 := by
    unfold IF oneF
    funext w
    exact propext ⟨fun _ => ⟨_, (Int.one_mul _).symm⟩, fun _ => ⟨_, (Int.one_mul _).symm⟩⟩
  refine ⟨D.one, ?_⟩
  refine (Hom.pr2 (hc.symm.trans ((Hom.pr2 R1.symm R2.symm).trans tri)) R3.symm).trans ?_
  rw [Pr.comm, e, o]
  exact Hom.sc (by simp only [eN]; intro h0; simp at h0; exact Int.mul_ne_zero (show (cuF3 k).a ≠ 0 by omega) (show (cuF3 k).a ≠ 0 by omega) h0)
end Go.Proofs.Ytjjkndgokdofdaa
