/- Plain facts: numbers alike at the machine's modulus; a matrix that acts on a cube is substituted into one form alone; the cube of two united forms. No program in sight. -/
import Derived.Test.YtlcegkafagdcjaaGreatDoorRC
import Derived.Test.YtlcegkafagdcjaaGreatDoorQK
namespace Go.Proofs.YtlcegkafagdcjaaGreatDoor
open Go.RowKit

/-- Numbers that are alike at the machine's modulus. -/
def Cg (x y : Int) : Prop := ∃ q : Int, x = y + 18446744073709551616 * q
theorem Cg.refl (x : Int) : Cg x x := ⟨0, by omega⟩
theorem Cg.symm {x y : Int} : Cg x y → Cg y x | ⟨q, h⟩ => ⟨-q, by omega⟩
theorem Cg.trans {x y z : Int} : Cg x y → Cg y z → Cg x z | ⟨q, h⟩, ⟨r, k⟩ => ⟨q + r, by omega⟩
theorem Cg.add {x y u v : Int} : Cg x y → Cg u v → Cg (x + u) (y + v) | ⟨q, h⟩, ⟨r, k⟩ => ⟨q + r, by omega⟩
theorem Cg.sub {x y u v : Int} : Cg x y → Cg u v → Cg (x - u) (y - v) | ⟨q, h⟩, ⟨r, k⟩ => ⟨q - r, by omega⟩
theorem Cg.neg {x y : Int} : Cg x y → Cg (-x) (-y) | ⟨q, h⟩ => ⟨-q, by omega⟩
theorem Cg.mul {x y u v : Int} : Cg x y → Cg u v → Cg (x * u) (y * v) | ⟨q, h⟩, ⟨r, k⟩ => ⟨q * v + y * r + 18446744073709551616 * (q * r), by subst h k; grind⟩
theorem Cg.wrap (x : Int) : Cg (wrap64 x) x := ⟨-((x + 9223372036854775808) / 18446744073709551616), by unfold wrap64; omega⟩
theorem Cg.wr {x y : Int} (h : Cg x y) : Cg (wrap64 x) y := (Cg.wrap x).trans h
theorem Cg.eq {x y : Int} (h : Cg x y) (b : -4611686018427387904 ≤ x ∧ x ≤ 4611686018427387904) (c : -4611686018427387904 ≤ y ∧ y ≤ 4611686018427387904) : x = y := by
  obtain ⟨q, h⟩ := h; omega
theorem Cg.wrEq {x y : Int} (h : Cg x y) : wrap64 x = wrap64 y := by
  obtain ⟨q, h⟩ := h; unfold wrap64; omega
structure CgC (k l : Cu) : Prop where
  a : Cg k.a l.a
  b : Cg k.b l.b
  c : Cg k.c l.c
  d : Cg k.d l.d
  e : Cg k.e l.e
  f : Cg k.f l.f
  g : Cg k.g l.g
  h : Cg k.h l.h
theorem CgC.refl (k : Cu) : CgC k k := ⟨.refl _, .refl _, .refl _, .refl _, .refl _, .refl _, .refl _, .refl _⟩
structure CgM (m n : M4) : Prop where
  p : Cg m.p n.p
  q : Cg m.q n.q
  r : Cg m.r n.r
  s : Cg m.s n.s
theorem CgM.refl (m : M4) : CgM m m := ⟨.refl _, .refl _, .refl _, .refl _⟩
structure CgF (f g : Fm) : Prop where
  a : Cg f.a g.a
  b : Cg f.b g.b
  c : Cg f.c g.c
/-- A matrix acts in the direction 1, in whole numbers. -/
def cuZ (k : Cu) (m : M4) : Cu := ⟨m.p * k.a - m.r * k.e, m.p * k.b - m.r * k.f, m.p * k.c - m.r * k.g, m.p * k.d - m.r * k.h, m.s * k.e - m.q * k.a, m.s * k.f - m.q * k.b, m.s * k.g - m.q * k.c, m.s * k.h - m.q * k.d⟩
/-- A matrix acts in the direction n + 1, in whole numbers. -/
def cuZn (k : Cu) (n : Nat) (m : M4) : Cu := tn (3 - n) (cuZ (tn n k) m)
theorem cg_acA {m n : M4} {x y u v : Int} (hm : CgM m n) (hx : Cg x u) (hy : Cg y v) : Cg (acA m x y) (n.p * u - n.r * v) :=
  (((hm.p.mul hx).wr).sub ((hm.r.mul hy).wr)).wr
theorem cg_acB {m n : M4} {x y u v : Int} (hm : CgM m n) (hx : Cg x u) (hy : Cg y v) : Cg (acB m x y) (n.s * v - n.q * u) :=
  (((hm.s.mul hy).wr).sub ((hm.q.mul hx).wr)).wr
theorem cg_fst {k l : Cu} {m n : M4} (hk : CgC k l) (hm : CgM m n) : CgC (cuFst k m) (cuZ l n) :=
  ⟨cg_acA hm hk.a hk.e, cg_acA hm hk.b hk.f, cg_acA hm hk.c hk.g, cg_acA hm hk.d hk.h, cg_acB hm hk.a hk.e, cg_acB hm hk.b hk.f, cg_acB hm hk.c hk.g, cg_acB hm hk.d hk.h⟩
theorem cg_T {k l : Cu} (h : CgC k l) : CgC (cuT k) (cuT l) := ⟨h.a, h.c, h.e, h.g, h.b, h.d, h.f, h.h⟩
theorem cg_tn {k l : Cu} (h : CgC k l) : ∀ n, CgC (tn n k) (tn n l)
  | 0 => h
  | n + 1 => cg_T (cg_tn h n)
theorem cg_act {k l : Cu} {m m' : M4} (n : Nat) (hk : CgC k l) (hm : CgM m m') : CgC (cuActF k n m) (cuZn l n m') := cg_tn (cg_fst (cg_tn hk n) hm) _
theorem cg_F {k l : Cu} (h : CgC k l) : CgF (cuF k) (cuF l) :=
  ⟨(h.b.mul h.c).sub (h.a.mul h.d), (((h.a.mul h.h).add (h.d.mul h.e)).sub (h.b.mul h.g)).sub (h.c.mul h.f), (h.f.mul h.g).sub (h.e.mul h.h)⟩
theorem cuZ_one (k : Cu) (m : M4) : cuF (cuZ k m) = actM (cuF k) m := by
  unfold cuZ cuF actM atF polF
  simp only [Fm.mk.injEq]
  refine ⟨by grind, by grind, by grind⟩
theorem cuZ_two (k : Cu) (m : M4) (h : m.det = 1) : cuF2 (cuZ k m) = cuF2 k := by
  unfold M4.det at h
  unfold cuF2 cuT cuZ cuF
  simp only [Fm.mk.injEq]
  have e : ∀ x y : Int, x = (m.p * m.s - m.q * m.r) * y → x = y := fun x y hx => by rw [h, Int.one_mul] at hx; exact hx
  refine ⟨e _ _ (by grind), e _ _ (by grind), e _ _ (by grind)⟩
theorem cuZ_three (k : Cu) (m : M4) (h : m.det = 1) : cuF3 (cuZ k m) = cuF3 k := by
  unfold M4.det at h
  unfold cuF3 cuT cuZ cuF
  simp only [Fm.mk.injEq]
  have e : ∀ x y : Int, x = (m.p * m.s - m.q * m.r) * y → x = y := fun x y hx => by rw [h, Int.one_mul] at hx; exact hx
  refine ⟨e _ _ (by grind), e _ _ (by grind), e _ _ (by grind)⟩
/-- The form of the direction n + 1. -/
def cuFn (n : Nat) (k : Cu) : Fm := cuF (tn n k)
theorem cuFn0 (k : Cu) : cuFn 0 k = cuF k := rfl
theorem cuFn1 (k : Cu) : cuFn 1 k = cuF2 k := rfl
theorem cuFn2 (k : Cu) : cuFn 2 k = cuF3 k := rfl
/-- A matrix that acts in a direction is substituted into the form of this direction alone. -/
theorem act_forms (k : Cu) (m : M4) (h : m.det = 1) (n : Nat) (hn : n ≤ 2) (j : Nat) (hj : j ≤ 2) : cuFn j (cuZn k n m) = if j = n then actM (cuFn j k) m else cuFn j k := by
  unfold cuFn cuZn
  have d1 : ∀ X : Cu, cuF (cuT (cuZ X m)) = cuF (cuT X) := fun X => cuZ_two X m h
  have d2 : ∀ X : Cu, cuF (cuT (cuT (cuZ X m))) = cuF (cuT (cuT X)) := fun X => cuZ_three X m h
  have d0 : ∀ X : Cu, cuF (cuZ X m) = actM (cuF X) m := fun X => cuZ_one X m
  have t3 : ∀ X : Cu, cuT (cuT (cuT X)) = X := fun X => rfl
  match n, hn, j, hj with
  | 0, _, 0, _ => simp only [tn, if_pos, t3]; exact d0 k
  | 0, _, 1, _ => simp only [tn, t3]; exact d1 k
  | 0, _, 2, _ => simp only [tn, t3]; exact d2 k
  | 1, _, 0, _ => simp only [tn]; exact d2 (cuT k)
  | 1, _, 1, _ => simp only [tn, t3]; exact d0 (cuT k)
  | 1, _, 2, _ => simp only [tn, t3]; exact d1 (cuT k)
  | 2, _, 0, _ => simp only [tn]; exact d1 (cuT (cuT k))
  | 2, _, 1, _ => simp only [tn]; exact d2 (cuT (cuT k))
  | 2, _, 2, _ => simp only [tn, t3]; exact d0 (cuT (cuT k))
def CgC.small (k : Cu) : Prop := (-500 ≤ k.a ∧ k.a ≤ 500) ∧ (-500 ≤ k.b ∧ k.b ≤ 500) ∧ (-500 ≤ k.c ∧ k.c ≤ 500) ∧ (-500 ≤ k.d ∧ k.d ≤ 500) ∧ (-500 ≤ k.e ∧ k.e ≤ 500) ∧ (-500 ≤ k.f ∧ k.f ≤ 500) ∧ (-500 ≤ k.g ∧ k.g ≤ 500) ∧ (-500 ≤ k.h ∧ k.h ≤ 500)
theorem small_tn {k : Cu} (h : CgC.small k) : ∀ n, CgC.small (tn n k)
  | 0 => h
  | n + 1 => by
    obtain ⟨a, b, c, d, e, f, g, i⟩ := small_tn h n
    exact ⟨a, c, e, g, b, d, f, i⟩
theorem sq500 {x y : Int} (hx : -500 ≤ x ∧ x ≤ 500) (hy : -500 ≤ y ∧ y ≤ 500) : -250000 ≤ x * y ∧ x * y ≤ 250000 := by
  have := mul_bd (a := x) (x := y) (A := 500) (X := 500) (by omega) (by omega) (by omega) (by omega)
  omega
/-- The forms of a cube are numbers of the program. -/
theorem small_F {k : Cu} (h : CgC.small k) : (-500000 ≤ (cuF k).a ∧ (cuF k).a ≤ 500000) ∧ (-1000000 ≤ (cuF k).b ∧ (cuF k).b ≤ 1000000) ∧ (-500000 ≤ (cuF k).c ∧ (cuF k).c ≤ 500000) := by
  obtain ⟨a, b, c, d, e, f, g, i⟩ := h
  have q1 := sq500 b c; have q2 := sq500 a d; have q3 := sq500 a i; have q4 := sq500 d e
  have q5 := sq500 b g; have q6 := sq500 c f; have q7 := sq500 f g; have q8 := sq500 e i
  unfold cuF
  refine ⟨⟨?_, ?_⟩, ⟨?_, ?_⟩, ?_, ?_⟩ <;> (dsimp only; omega)
theorem CgF.eq {f g : Fm} (h : CgF f g) (b : (-4000000000000000000 ≤ f.a ∧ f.a ≤ 4000000000000000000) ∧ (-4000000000000000000 ≤ f.b ∧ f.b ≤ 4000000000000000000) ∧ (-4000000000000000000 ≤ f.c ∧ f.c ≤ 4000000000000000000)) (c : (-4000000000000000000 ≤ g.a ∧ g.a ≤ 4000000000000000000) ∧ (-4000000000000000000 ≤ g.b ∧ g.b ≤ 4000000000000000000) ∧ (-4000000000000000000 ≤ g.c ∧ g.c ≤ 4000000000000000000)) : f = g := by
  obtain ⟨fa, fb, fc⟩ := f
  obtain ⟨ga, gb, gc⟩ := g
  have h1 := h.a.eq (by dsimp only at *; omega) (by dsimp only at *; omega)
  have h2 := h.b.eq (by dsimp only at *; omega) (by dsimp only at *; omega)
  have h3 := h.c.eq (by dsimp only at *; omega) (by dsimp only at *; omega)
  dsimp only at h1 h2 h3
  rw [h1, h2, h3]
/-- The inverse of a matrix. -/
def M4.inv (m : M4) : M4 := ⟨m.s, -m.q, -m.r, m.p⟩
theorem inv_det {m : M4} (h : m.det = 1) : m.inv.det = 1 := by
  unfold M4.det M4.inv at *
  dsimp only
  rw [← h]; grind
theorem cg_inv {m n : M4} (h : CgM m n) (d : n.det = 1) : CgM (invW m) n.inv := by
  have hd : Cg (detW m) 1 := by
    have e : Cg (detW m) (n.p * n.s - n.q * n.r) := (((h.p.mul h.s).wr).sub ((h.q.mul h.r).wr)).wr
    unfold M4.det at d
    rwa [d] at e
  have one : ∀ {x y : Int}, Cg x y → Cg (wrap64 (detW m * x)) y := fun {x y} hx => by
    have := (hd.mul hx).wr
    rwa [Int.one_mul] at this
  have neg : ∀ {x y : Int}, Cg x y → Cg (wrap64 (wrap64 (-detW m) * x)) (-y) := fun {x y} hx => by
    have := ((hd.neg.wr).mul hx).wr
    rwa [Int.neg_mul, Int.one_mul] at this
  exact ⟨one h.s, neg h.q, neg h.r, one h.p⟩
/-- The cube of united forms. -/
def cuK (a b c e : Int) : Cu := ⟨0, a, 1, 0, e, -b, 0, -c⟩
theorem cuK_one (a b c e : Int) : cuF (cuK a b c e) = ⟨a, b, e * c⟩ := by
  unfold cuF cuK; simp only [Fm.mk.injEq]; refine ⟨by grind, by grind, by grind⟩
theorem cuK_two (a b c e : Int) : cuF2 (cuK a b c e) = ⟨e, b, a * c⟩ := by
  unfold cuF2 cuT cuF cuK; simp only [Fm.mk.injEq]; refine ⟨by grind, by grind, by grind⟩
theorem cuK_three (a b c e : Int) : cuF3 (cuK a b c e) = ⟨a * e, -b, c⟩ := by
  unfold cuF3 cuT cuF cuK; simp only [Fm.mk.injEq]; refine ⟨by grind, by grind, by grind⟩
theorem act_inv {f : Fm} {m : M4} (h : m.det = 1) : actM (actM f m) m.inv = f := by
  rw [act_mul]
  have e : m.mul m.inv = M4.one := by
    unfold M4.mul M4.inv M4.one
    unfold M4.det at h
    simp only [M4.mk.injEq]
    refine ⟨by rw [← h]; grind, by grind, by grind, by rw [← h]; grind⟩
  rw [e, act_one]
/-- The forms of the cube that three matrices make of the cube of united forms. -/
theorem cube_of {f g : Fm} {m n l : M4} {a b c e : Int} (hm : m.det = 1) (hn : n.det = 1) (hl : l.det = 1) (h1 : actM f m = ⟨a, b, e * c⟩) (h2 : actM g n = ⟨e, b, a * c⟩) :
    let K := cuZn (cuZn (cuZn (cuK a b c e) 0 m.inv) 1 n.inv) 2 l
    cuF K = f ∧ cuF2 K = g ∧ cuF3 K = actM ⟨a * e, -b, c⟩ l := by
  intro K
  have F := fun (k : Cu) (m : M4) (h : m.det = 1) (n : Nat) (hn : n ≤ 2) (j : Nat) (hj : j ≤ 2) => act_forms k m h n hn j hj
  refine ⟨?_, ?_, ?_⟩
  · show cuFn 0 K = f
    rw [F _ l hl 2 (by omega) 0 (by omega), if_neg (by decide), F _ _ (inv_det hn) 1 (by omega) 0 (by omega), if_neg (by decide), F _ _ (inv_det hm) 0 (by omega) 0 (by omega), if_pos rfl, cuFn0, cuK_one, ← h1, act_inv hm]
  · show cuFn 1 K = g
    rw [F _ l hl 2 (by omega) 1 (by omega), if_neg (by decide), F _ _ (inv_det hn) 1 (by omega) 1 (by omega), if_pos rfl, F _ _ (inv_det hm) 0 (by omega) 1 (by omega), if_neg (by decide), cuFn1, cuK_two, ← h2, act_inv hn]
  · show cuFn 2 K = _
    rw [F _ l hl 2 (by omega) 2 (by omega), if_pos rfl, F _ _ (inv_det hn) 1 (by omega) 2 (by omega), if_neg (by decide), F _ _ (inv_det hm) 0 (by omega) 2 (by omega), if_neg (by decide), cuFn2, cuK_three]
end Go.Proofs.YtlcegkafagdcjaaGreatDoor
