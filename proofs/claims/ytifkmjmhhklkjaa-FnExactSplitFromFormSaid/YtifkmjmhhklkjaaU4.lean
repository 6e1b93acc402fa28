/- Plain facts: the data of a composite, as the program and the reference make them. -/
import Derived.Test.YtifkmjmhhklkjaaU3
namespace Go.Proofs.Ytifkmjmhhklkjaa
open Go.RowKit

structure UD (d : Int) (f g : Fm) (x y S Q T e h k b c t1 t2 : Int) : Prop where
  D : Dsc d
  hf : f ∈ clsL d
  hg : g ∈ clsL d
  pt : MinPt (Good g.a g.b g.c f.a) x y
  co : CoD g.a g.b g.c x y S Q T
  ee : e = atF g.a g.b g.c x y
  eh : h = polF g.a g.b g.c x y (Q + T * x) (S + T * y)
  ek : k = atF g.a g.b g.c (Q + T * x) (S + T * y)
  b0 : 0 ≤ b
  b1 : b < 2 * (f.a * e)
  t1 : b = f.b + 2 * (f.a * t1)
  t2 : b = h + 2 * (e * t2)
  hc : b * b - d = 4 * (f.a * e) * c

theorem atF_eq (a b c x y : Int) : atF a b c x y = a * (x * x) + b * (x * y) + c * (y * y) := by unfold atF; grind
theorem cls_bd {d : Int} {f : Fm} (h1 : -2000 ≤ d) (hf : f ∈ clsL d) : (1 ≤ f.a ∧ f.a ≤ 26) ∧ (-26 ≤ f.b ∧ f.b ≤ 26) ∧ (1 ≤ f.c ∧ f.c ≤ 1000) := by
  have ha := cls_a h1 hf
  obtain ⟨⟨f1, _, f3, f4, f5, f6, f7⟩, _⟩ := mem_clsL h1 hf
  have := (isRed_iff _ _ _).1 f4
  exact ⟨⟨f1, ha⟩, ⟨by omega, by omega⟩, ⟨by omega, f7⟩⟩
theorem good_ex {d : Int} {f g : Fm} (h1 : -2000 ≤ d) (hf : f ∈ clsL d) (hg : g ∈ clsL d) : ∃ X Y S : Int, (0 ≤ X ∧ X ≤ S) ∧ (0 ≤ Y ∧ Y ≤ S) ∧ S ≤ 3 ∧ 1 ≤ S ∧ Good g.a g.b g.c f.a X Y := by
  obtain ⟨⟨a1, a2⟩, _, _⟩ := cls_bd h1 hf
  obtain ⟨_, g5⟩ := mem_clsL h1 hg
  obtain ⟨x, y, hx, hy, hxy, hv⟩ := pt_int (a := f.a) (by omega) a2 g5
  refine ⟨x, y, max x y, ⟨hx.1, by omega⟩, ⟨hy.1, by omega⟩, by omega, ?_, hxy, by rw [atF_eq]; exact hv⟩
  apply Int.not_lt.1; intro hl
  have e1 : x = 0 := by omega
  have e2 : y = 0 := by omega
  rw [e1, e2] at hxy; simp at hxy
theorem good_min {G : Int → Int → Prop} : ∀ (n : Nat) {X Y : Int}, 0 ≤ X → 0 ≤ Y → max X Y = n → G X Y → ∃ x y, MinPt G x y ∧ max x y ≤ n := by
  -- by the well order of the points: least max, then least x, then least y
  classical
  intro n X Y hX hY hn hg
  have e1 : ∃ m : Nat, ∃ X Y : Int, 0 ≤ X ∧ 0 ≤ Y ∧ max X Y = m ∧ G X Y := ⟨n, X, Y, hX, hY, hn, hg⟩
  have least : ∀ (p : Nat → Prop), (∃ m, p m) → ∃ m, p m ∧ ∀ j, j < m → ¬ p j := by
    intro p ⟨m, hm⟩
    induction m using Nat.strongRecOn with
    | ind m ih =>
      by_cases h : ∃ j, j < m ∧ p j
      · obtain ⟨j, h1, h2⟩ := h; exact ih j h1 h2
      · exact ⟨m, hm, fun j hj hp => h ⟨j, hj, hp⟩⟩
  obtain ⟨m, ⟨X1, Y1, a1, a2, a3, a4⟩, hm⟩ := least _ e1
  obtain ⟨x, ⟨Y2, b2, b3, b4⟩, hx⟩ := least (fun x => ∃ Y : Int, 0 ≤ Y ∧ max (x : Int) Y = m ∧ G x Y) ⟨X1.toNat, Y1, a2, by omega, by rw [show ((X1.toNat : Nat) : Int) = X1 by omega]; exact a4⟩
  obtain ⟨y, ⟨c3, c4⟩, hy⟩ := least (fun y => max (x : Int) (y : Int) = m ∧ G x y) ⟨Y2.toNat, by omega, by rw [show ((Y2.toNat : Nat) : Int) = Y2 by omega]; exact b4⟩
  have hmn : m ≤ n := by
    apply Nat.not_lt.1; intro hl
    exact hm n hl ⟨X, Y, hX, hY, hn, hg⟩
  refine ⟨x, y, ⟨by omega, by omega, c4, ?_⟩, by omega⟩
  intro x' y' h1 h2 h3 h4
  rw [c3] at h3
  rcases h3 with h3 | ⟨h3, h5⟩
  · exact hm (max x' y').toNat (by omega) ⟨x', y', h1, h2, by omega, h4⟩
  · rcases h5 with h5 | ⟨h5, h6⟩
    · exact hx x'.toNat (by omega) ⟨y', h2, by omega, by rw [show ((x'.toNat : Nat) : Int) = x' by omega]; exact h4⟩
    · exact hy y'.toNat (by omega) ⟨by omega, by rw [show ((y'.toNat : Nat) : Int) = y' by omega, ← h5]; exact h4⟩

theorem ud_ex {d : Int} {f g : Fm} (D : Dsc d) (hf : f ∈ clsL d) (hg : g ∈ clsL d) : ∃ x y S Q T e h k b c t1 t2, UD d f g x y S Q T e h k b c t1 t2 := by
  obtain ⟨⟨a1, a2⟩, ⟨fb1, fb2⟩, ⟨fc1, fc2⟩⟩ := cls_bd D.lo hf
  obtain ⟨⟨A1, A2⟩, ⟨B1, B2⟩, ⟨C1, C2⟩⟩ := cls_bd D.lo hg
  obtain ⟨⟨_, _, f3, f4, _⟩, f5⟩ := mem_clsL D.lo hf
  obtain ⟨⟨_, _, g3, g4, _⟩, g5⟩ := mem_clsL D.lo hg
  obtain ⟨X, Y, S0, hX, hY, hS, hS1, hgd⟩ := good_ex D.lo hf hg
  obtain ⟨x, y, hpt, hmx⟩ := good_min (max X Y).toNat hX.1 hY.1 (by omega) hgd
  have hpt' := hpt
  obtain ⟨x0, y0, ⟨hxy, hv⟩, _⟩ := hpt
  have hx3 : x ≤ 3 := by omega
  have hy3 : y ≤ 3 := by omega
  have hbz := bez_ok ⟨x0, hx3⟩ ⟨y0, hy3⟩ hxy
  generalize hS : bezS x y = S at hbz
  generalize hV : bezV x y = V at hbz
  have he0 : 0 < atF g.a g.b g.c x y := by
    have := (fv_min (g := g) (p := x) (r := -y) (by omega) (by have := (isRed_iff _ _ _).1 g4; omega) (by have := (isRed_iff _ _ _).1 g4; omega) (by have := (isRed_iff _ _ _).1 g4; omega) (by
      rintro ⟨h1, h2⟩
      have h3 : y = 0 := by omega
      rw [h1, h3] at hxy; simp at hxy)).1
    have e2 : fv g x (-y) = atF g.a g.b g.c x y := by unfold fv atF; grind
    omega
  have co : CoD g.a g.b g.c x y S (-V) (-(polF g.a g.b g.c x y (-V) S / (2 * atF g.a g.b g.c x y))) :=
    ⟨by omega, by omega, by omega, ⟨x0, hx3⟩, ⟨y0, hy3⟩, hxy, he0, by rw [Int.neg_neg]; exact hbz, hS.symm, by rw [Int.neg_neg]; exact hV.symm, rfl⟩
  generalize -(polF g.a g.b g.c x y (-V) S / (2 * atF g.a g.b g.c x y)) = T at co
  generalize hQ : -V = Q at co
  obtain ⟨l, m, hlm⟩ := bez (atF g.a g.b g.c x y) f.a
  rw [hv] at hlm
  have hdet := co.det
  have U0 : ∀ b t1 t2, b = f.b + 2 * (f.a * t1) → b = polF g.a g.b g.c x y (Q + T * x) (S + T * y) + 2 * (atF g.a g.b g.c x y * t2) → Uni f g x y (Q + T * x) (S + T * y) (atF g.a g.b g.c x y) (polF g.a g.b g.c x y (Q + T * x) (S + T * y)) (atF g.a g.b g.c (Q + T * x) (S + T * y)) b t1 t2 m l :=
    fun b t1 t2 e1 e2 => ⟨hdet, atF_eq _ _ _ _ _, by unfold polF; grind, atF_eq _ _ _ _ _, e1, e2, by simp at hlm; omega⟩
  have dh := (U0 (f.b + 2 * (f.a * 0)) 0 0 rfl)
  have p1 := hF_two (s := sD d) (n := nD d) (f := f) (by have := sn D.md; omega)
  have dd : disc ⟨atF g.a g.b g.c x y, polF g.a g.b g.c x y (Q + T * x) (S + T * y), atF g.a g.b g.c (Q + T * x) (S + T * y)⟩ = d := by
    have := at_disc (a := g.a) (b := g.b) (c := g.c) hdet
    have e9 : disc ⟨g.a, g.b, g.c⟩ = d := g3
    rw [e9] at this
    simp only [disc]; omega
  have p2 := hF_two (s := sD d) (n := nD d) (f := ⟨atF g.a g.b g.c x y, polF g.a g.b g.c x y (Q + T * x) (S + T * y), atF g.a g.b g.c (Q + T * x) (S + T * y)⟩) (by have := sn D.md; omega)
  simp only at p2
  generalize hm : hF (sD d) ⟨atF g.a g.b g.c x y, polF g.a g.b g.c x y (Q + T * x) (S + T * y), atF g.a g.b g.c (Q + T * x) (S + T * y)⟩ - hF (sD d) f = z at *
  have hbm : polF g.a g.b g.c x y (Q + T * x) (S + T * y) = f.b + 2 * z := by omega
  have ee : ∃ e, e = atF g.a g.b g.c x y := ⟨_, rfl⟩
  obtain ⟨e, ee⟩ := ee
  have eh : ∃ h, h = polF g.a g.b g.c x y (Q + T * x) (S + T * y) := ⟨_, rfl⟩
  obtain ⟨h, eh⟩ := eh
  rw [← ee] at U0 hlm he0
  rw [← eh] at U0 hbm
  have hlk1 : m * f.a = 1 - l * e := by simp at hlm; omega
  have hA : 0 < f.a * e := Int.mul_pos (by omega) he0
  -- the residue
  generalize hr : (f.b + 2 * (f.a * (m * z))) / (2 * (f.a * e)) = r
  have hr1 := Int.emod_add_mul_ediv (f.b + 2 * (f.a * (m * z))) (2 * (f.a * e))
  have hr2 := Int.emod_nonneg (f.b + 2 * (f.a * (m * z))) (show 2 * (f.a * e) ≠ 0 by omega)
  have hr3 := Int.emod_lt_of_pos (f.b + 2 * (f.a * (m * z))) (show 0 < 2 * (f.a * e) by omega)
  rw [hr] at hr1
  generalize (f.b + 2 * (f.a * (m * z))) % (2 * (f.a * e)) = b at *
  have q1 : b = f.b + 2 * (f.a * (m * z - e * r)) := by grind
  have q2 : b = h + 2 * (e * (-(l * z) - f.a * r)) := by
    have e1 : f.a * (m * z) = m * f.a * z := by grind
    rw [e1, hlk1] at hr1
    rw [hbm]; grind
  have U := U0 b _ _ q1 q2
  obtain ⟨c, hc1, _, _⟩ := U.c (f3.trans g3.symm)
  rw [f3] at hc1
  exact ⟨x, y, S, Q, T, e, h, _, b, c, _, _, ⟨D, hf, hg, hpt', co, ee, eh, rfl, hr2, hr3, q1, q2, hc1⟩⟩
end Go.Proofs.Ytifkmjmhhklkjaa
