/- Plain facts: substitution and composition of forms, by ideals. No program in sight. -/
import Derived.Test.YtifkmjmhhklkjaaM4
namespace Go.Proofs.Ytifkmjmhhklkjaa

/-- A substitution of determinant 1 stays in the class. -/
theorem Id.subst {s n a h c x y q t e h' : Int} (hn : h * h - s * h + n = a * c) (hdet : x * t - q * y = 1) (ha : a ≠ 0) (he : e = a * (x * x) + (2 * h - s) * (x * y) + c * (y * y)) (he0 : e ≠ 0)
    (hh : h' = a * (x * q) + h * (x * t + q * y) + c * (y * t) - s * (q * y)) : Hom s n (Id a h) (Id e h') := by
  have n1 : emul s n ⟨a * x + h * y - s * y, y⟩ ⟨a * x + h * y, -y⟩ = ⟨a * e, 0⟩ := by
    have hnn : n = a * c - h * h + s * h := by omega
    rw [hnn]
    apply El.eq <;> simp only [emul]
    · rw [he]; grind
    · grind
  have n2 : emul s n ⟨a * x + h * y - s * y, y⟩ ⟨a * q + h * t, -t⟩ = ⟨a * h', -a⟩ := by
    have hnn : n = a * c - h * h + s * h := by omega
    rw [hnn]
    have hd : x * t = 1 + q * y := by omega
    apply El.eq <;> simp only [emul]
    · rw [hh, hd]; grind
    · grind
  refine ⟨⟨a * x + h * y - s * y, y⟩, ⟨a, 0⟩, ?_, ?_, ?_⟩
  · have e1 := congrArg (eN s n) n1
    rw [eN_mul] at e1
    intro h0
    rw [h0, Int.zero_mul] at e1
    have e2 : eN s n ⟨a * e, 0⟩ = (a * e) * (a * e) := by simp only [eN]; grind
    rw [e2] at e1
    exact Int.mul_ne_zero (Int.mul_ne_zero ha he0) (Int.mul_ne_zero ha he0) e1.symm
  · have e2 : eN s n ⟨a, 0⟩ = a * a := by simp only [eN]; grind
    rw [e2]; exact Int.mul_ne_zero ha ha
  · have key : ∀ k v : Int, emul s n ⟨a * x + h * y - s * y, y⟩ ⟨a * k - h * v, v⟩ = emul s n ⟨a, 0⟩ ⟨(k * t + v * q) * e - (k * y + v * x) * h', k * y + v * x⟩ := by
      intro k v
      have l := emul_lin (s := s) (n := n) ⟨a * x + h * y - s * y, y⟩ ⟨a * x + h * y, -y⟩ ⟨a * q + h * t, -t⟩ (k * t + v * q) (-(k * y + v * x))
      rw [n1, n2] at l
      have e1 : (⟨a * k - h * v, v⟩ : El) = ⟨(k * t + v * q) * (a * x + h * y) + -(k * y + v * x) * (a * q + h * t), (k * t + v * q) * -y + -(k * y + v * x) * -t⟩ := by
        have hd : x * t = 1 + q * y := by omega
        apply El.eq <;> simp only <;> grind
      rw [e1, l]
      apply El.eq <;> simp only [emul] <;> grind
    funext z
    refine propext ⟨?_, ?_⟩
    · rintro ⟨⟨u, v⟩, ⟨k, hk⟩, rfl⟩
      simp only at hk
      obtain rfl : u = a * k - h * v := by omega
      exact ⟨_, ⟨k * t + v * q, by simp only; grind⟩, key k v⟩
    · rintro ⟨⟨U, V⟩, ⟨m, hm⟩, rfl⟩
      simp only at hm
      have hd : x * t = 1 + q * y := by omega
      refine ⟨⟨a * (x * m - q * V) - h * (t * V - y * m), t * V - y * m⟩, ⟨x * m - q * V, by simp only; omega⟩, ?_⟩
      rw [key]
      have e1 : (x * m - q * V) * t + (t * V - y * m) * q = m := by grind
      have e2 : (x * m - q * V) * y + (t * V - y * m) * x = V := by grind
      rw [e1, e2]
      congr 1
      apply El.eq <;> simp only
      rw [Int.mul_comm m e, ← hm, Int.mul_comm V h']; omega

/-- The class of a composite. -/
theorem comp_class {s n : Int} {f g : Fm} {x y q t e b c t1 t2 k l hb : Int} (hf : disc f = s * s - 4 * n) (hg : disc g = s * s - 4 * n) (ga : g.a ≠ 0) (he0 : e ≠ 0) (hdet : x * t - q * y = 1)
    (he : e = g.a * (x * x) + g.b * (x * y) + g.c * (y * y)) (hhb : hb = 2 * (g.a * (x * q)) + g.b * (x * t + q * y) + 2 * (g.c * (y * t)))
    (h1 : b = f.b + 2 * (f.a * t1)) (h2 : b = hb + 2 * (e * t2)) (hc : disc ⟨f.a * e, b, c⟩ = s * s - 4 * n) (hgcd : k * f.a + l * e = 1) :
    Hom s n (Pr s n (IF s f) (IF s g)) (IF s ⟨f.a * e, b, c⟩) := by
  have f2 := hF_two hf
  have g2 := hF_two hg
  have c2 := hF_two hc
  have gn := hF_norm hg
  have cn := hF_norm hc
  simp only at c2 cn
  have hs1 : hF s ⟨f.a * e, b, c⟩ = hF s f + f.a * t1 := by omega
  have hgb : g.b = 2 * hF s g - s := by omega
  have hh' : hF s ⟨f.a * e, b, c⟩ = (g.a * (x * q) + hF s g * (x * t + q * y) + g.c * (y * t) - s * (q * y)) + e * t2 := by
    have e1 : hb + s = 2 * (g.a * (x * q) + hF s g * (x * t + q * y) + g.c * (y * t) - s * (q * y)) := by
      rw [hhb, hgb]
      have hd : x * t = 1 + q * y := by omega
      rw [hd]; grind
    omega
  have S := Id.subst (s := s) (n := n) (h' := g.a * (x * q) + hF s g * (x * t + q * y) + g.c * (y * t) - s * (q * y)) gn hdet ga (by rw [he, hgb]) he0 rfl
  have I1 : IF s f = Id f.a (hF s ⟨f.a * e, b, c⟩) := by rw [hs1]; exact (Id.shift _ _ _).symm
  have I2 : Hom s n (IF s g) (Id e (hF s ⟨f.a * e, b, c⟩)) := S.trans (Hom.of (by rw [hh']; exact (Id.shift _ _ _).symm))
  have P := Hom.pr2 (Hom.of I1) I2
  rw [Id.comp (c := c) cn hgcd] at P
  exact P

/-- Composition by a primitive form can be undone. -/
theorem comp_cancel {s n : Int} {p p' f : Fm} {x y z : Int} (hp : disc p = s * s - 4 * n) (hp' : disc p' = s * s - 4 * n) (hf : disc f = s * s - 4 * n) (fa : f.a ≠ 0) (hprim : x * f.a + y * f.b + z * f.c = 1)
    (h : Hom s n (Pr s n (IF s p) (IF s f)) (Pr s n (IF s p') (IF s f))) : Hom s n (IF s p) (IF s p') := by
  have f2 := hF_two hf
  have fn := hF_norm hf
  have e : Pr s n (IF s f) (Id f.a (s - hF s f)) = Sc s n ⟨f.a, 0⟩ (Id 1 0) := Id.inv (x := x) (y := y) (z := z) fn (by rw [f2]; simpa using hprim)
  have und : ∀ r : Fm, disc r = s * s - 4 * n → Hom s n (Pr s n (Pr s n (IF s r) (IF s f)) (Id f.a (s - hF s f))) (IF s r) := by
    intro r hr
    rw [Pr.assoc, e, Pr.comm, Pr.sc, Pr.comm]
    have u : Pr s n (IF s r) (Id 1 0) = IF s r := Id.unit (hF_norm hr) 0
    rw [u]
    exact Hom.sc (by simp only [eN]; intro h0; simp at h0; exact Int.mul_ne_zero fa fa h0)
  exact (und p hp).symm.trans ((h.pr _).trans (und p' hp'))
end Go.Proofs.Ytifkmjmhhklkjaa
