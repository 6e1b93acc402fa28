/- Plain facts: ideals of quadratic orders, their products and their classes. No program in sight. -/
import Derived.Test.YtifkmjmhhklkjaaM1
namespace Go.Proofs.Ytifkmjmhhklkjaa

/-- The number u + v*w, where w*w = s*w - n. -/
structure El where
  u : Int
  v : Int
theorem El.eq {x y : El} (h1 : x.u = y.u) (h2 : x.v = y.v) : x = y := by
  cases x; cases y; simp at *; exact ⟨h1, h2⟩

section
variable {s n : Int}
def eadd (x y : El) : El := ⟨x.u + y.u, x.v + y.v⟩
def eneg (x : El) : El := ⟨-x.u, -x.v⟩
def emul (s n : Int) (x y : El) : El := ⟨x.u * y.u - n * x.v * y.v, x.u * y.v + x.v * y.u + s * x.v * y.v⟩
def ecj (s : Int) (x : El) : El := ⟨x.u + s * x.v, -x.v⟩
def eN (s n : Int) (x : El) : Int := x.u * x.u + s * x.u * x.v + n * x.v * x.v
def eD (x y : El) : Int := x.u * y.v - y.u * x.v

theorem emul_comm (x y : El) : emul s n x y = emul s n y x := by apply El.eq <;> simp only [emul] <;> grind
theorem emul_assoc (x y z : El) : emul s n (emul s n x y) z = emul s n x (emul s n y z) := by apply El.eq <;> simp only [emul] <;> grind
theorem emul_add (x y z : El) : emul s n x (eadd y z) = eadd (emul s n x y) (emul s n x z) := by apply El.eq <;> simp only [emul, eadd] <;> grind
theorem emul_neg (x y : El) : emul s n x (eneg y) = eneg (emul s n x y) := by apply El.eq <;> simp only [emul, eneg] <;> grind
theorem emul_zero (x : El) : emul s n x ⟨0, 0⟩ = ⟨0, 0⟩ := by apply El.eq <;> simp only [emul] <;> grind
theorem eN_mul (x y : El) : eN s n (emul s n x y) = eN s n x * eN s n y := by simp only [emul, eN]; grind
theorem eD_mul (x y z : El) : eD (emul s n x y) (emul s n x z) = eN s n x * eD y z := by simp only [emul, eN, eD]; grind
theorem ecj_mul (x y : El) : emul s n (ecj s x) (emul s n x y) = ⟨eN s n x * y.u, eN s n x * y.v⟩ := by apply El.eq <;> simp only [emul, eN, ecj] <;> grind
theorem emul_cancel {x y z : El} (hx : eN s n x ≠ 0) (h : emul s n x y = emul s n x z) : y = z := by
  have h1 := ecj_mul (s := s) (n := n) x y
  rw [h, ecj_mul] at h1
  injection h1 with e1 e2
  exact El.eq (Int.eq_of_mul_eq_mul_left hx e1.symm) (Int.eq_of_mul_eq_mul_left hx e2.symm)

abbrev Ide := El → Prop
structure IsAdd (I : Ide) : Prop where
  zero : I ⟨0, 0⟩
  add : ∀ x y, I x → I y → I (eadd x y)
  neg : ∀ x, I x → I (eneg x)
theorem IsAdd.nsm {I : Ide} (h : IsAdd I) {x : El} (hx : I x) : ∀ k : Nat, I ⟨(k : Int) * x.u, (k : Int) * x.v⟩
  | 0 => by simpa using h.zero
  | k + 1 => by
    have := h.add _ _ (h.nsm hx k) hx
    have e : (⟨((k + 1 : Nat) : Int) * x.u, ((k + 1 : Nat) : Int) * x.v⟩ : El) = eadd ⟨(k : Int) * x.u, (k : Int) * x.v⟩ x := by
      apply El.eq <;> simp [eadd, Int.add_mul]
    rw [e]; exact this
theorem IsAdd.sm {I : Ide} (h : IsAdd I) {x : El} (hx : I x) (k : Int) : I ⟨k * x.u, k * x.v⟩ := by
  rcases Int.le_total 0 k with h0 | h0
  · obtain ⟨m, rfl⟩ := Int.eq_ofNat_of_zero_le h0
    exact h.nsm hx m
  · obtain ⟨m, hm⟩ := Int.eq_ofNat_of_zero_le (show 0 ≤ -k by omega)
    have := h.neg _ (h.nsm hx m)
    have e : (⟨k * x.u, k * x.v⟩ : El) = eneg ⟨(m : Int) * x.u, (m : Int) * x.v⟩ := by
      have : k = -(m : Int) := by omega
      subst this
      apply El.eq <;> simp [eneg, Int.neg_mul]
    rw [e]; exact this

/-- The product of two. -/
def Pr (s n : Int) (I J : Ide) : Ide := fun z => ∀ K : Ide, IsAdd K → (∀ x y, I x → J y → K (emul s n x y)) → K z
theorem Pr.isAdd (I J : Ide) : IsAdd (Pr s n I J) :=
  ⟨fun _ hK _ => hK.zero, fun _ _ hx hy K hK h => hK.add _ _ (hx K hK h) (hy K hK h), fun _ hx K hK h => hK.neg _ (hx K hK h)⟩
theorem Pr.mk {I J : Ide} {x y : El} (hx : I x) (hy : J y) : Pr s n I J (emul s n x y) := fun _ _ h => h _ _ hx hy
theorem Pr.comm_le {I J : Ide} {z : El} (h : Pr s n I J z) : Pr s n J I z := h _ (Pr.isAdd _ _) fun x y hx hy => by rw [emul_comm]; exact Pr.mk hy hx
theorem Pr.comm (I J : Ide) : Pr s n I J = Pr s n J I := funext fun _ => propext ⟨Pr.comm_le, Pr.comm_le⟩
theorem add_left {K : Ide} (hK : IsAdd K) (x : El) : IsAdd (fun z => K (emul s n x z)) :=
  ⟨by rw [emul_zero]; exact hK.zero, fun y z h1 h2 => by rw [emul_add]; exact hK.add _ _ h1 h2, fun y h1 => by rw [emul_neg]; exact hK.neg _ h1⟩
theorem add_right {K : Ide} (hK : IsAdd K) (x : El) : IsAdd (fun z => K (emul s n z x)) := by
  have h := add_left (s := s) (n := n) hK x
  have e : (fun z => K (emul s n z x)) = (fun z => K (emul s n x z)) := funext fun z => by rw [emul_comm]
  rw [e]; exact h
theorem Pr.assoc_le {I J L : Ide} {z : El} (h : Pr s n (Pr s n I J) L z) : Pr s n I (Pr s n J L) z :=
  h _ (Pr.isAdd _ _) fun x y hx hy => hx _ (add_right (Pr.isAdd _ _) y) fun i j hi hj => by rw [emul_assoc]; exact Pr.mk hi (Pr.mk hj hy)
theorem Pr.assoc (I J L : Ide) : Pr s n (Pr s n I J) L = Pr s n I (Pr s n J L) := funext fun _ => propext ⟨Pr.assoc_le, fun h => by
  rw [Pr.comm, Pr.comm I J]
  rw [Pr.comm, Pr.comm J L] at h
  exact Pr.assoc_le h⟩

/-- A multiple. -/
def Sc (s n : Int) (α : El) (I : Ide) : Ide := fun z => ∃ x, I x ∧ z = emul s n α x
theorem Sc.isAdd {α : El} {I : Ide} (h : IsAdd I) : IsAdd (Sc s n α I) :=
  ⟨⟨_, h.zero, (emul_zero _).symm⟩, fun _ _ ⟨x, hx, ex⟩ ⟨y, hy, ey⟩ => ⟨_, h.add _ _ hx hy, by rw [ex, ey, emul_add]⟩, fun _ ⟨x, hx, ex⟩ => ⟨_, h.neg _ hx, by rw [ex, emul_neg]⟩⟩
theorem Pr.sc (α : El) (I J : Ide) : Pr s n (Sc s n α I) J = Sc s n α (Pr s n I J) := funext fun z => propext ⟨fun h =>
    h _ (Sc.isAdd (Pr.isAdd _ _)) fun x y ⟨x', hx', ex⟩ hy => ⟨_, Pr.mk hx' hy, by rw [ex, emul_assoc]⟩,
  fun ⟨w, hw, ew⟩ => by
    rw [ew]
    exact hw _ (add_left (Pr.isAdd _ _) α) fun x y hx hy => by rw [← emul_assoc]; exact Pr.mk ⟨x, hx, rfl⟩ hy⟩
theorem Sc.sc (α β : El) (I : Ide) : Sc s n α (Sc s n β I) = Sc s n (emul s n α β) I := funext fun z => propext ⟨fun ⟨_, ⟨x, hx, ex⟩, ey⟩ => ⟨x, hx, by rw [ey, ex, emul_assoc]⟩, fun ⟨x, hx, ex⟩ => ⟨_, ⟨x, hx, rfl⟩, by rw [ex, emul_assoc]⟩⟩

/-- One class. -/
def Hom (s n : Int) (I J : Ide) : Prop := ∃ α β, eN s n α ≠ 0 ∧ eN s n β ≠ 0 ∧ Sc s n α I = Sc s n β J
theorem Hom.refl (I : Ide) : Hom s n I I := ⟨⟨1, 0⟩, ⟨1, 0⟩, by simp [eN], by simp [eN], rfl⟩
theorem Hom.of {I J : Ide} (h : I = J) : Hom s n I J := h ▸ Hom.refl I
theorem Hom.symm {I J : Ide} (h : Hom s n I J) : Hom s n J I := by
  obtain ⟨α, β, h1, h2, h3⟩ := h
  exact ⟨β, α, h2, h1, h3.symm⟩
theorem Hom.trans {I J K : Ide} (h : Hom s n I J) (k : Hom s n J K) : Hom s n I K := by
  obtain ⟨α, β, h1, h2, h3⟩ := h
  obtain ⟨γ, δ, k1, k2, k3⟩ := k
  refine ⟨emul s n γ α, emul s n β δ, ?_, ?_, ?_⟩
  · rw [eN_mul]; exact Int.mul_ne_zero k1 h1
  · rw [eN_mul]; exact Int.mul_ne_zero h2 k2
  · rw [← Sc.sc, h3, Sc.sc, emul_comm, ← Sc.sc, k3, Sc.sc]
theorem Hom.sc {I : Ide} {α : El} (h : eN s n α ≠ 0) : Hom s n (Sc s n α I) I := ⟨⟨1, 0⟩, α, by simp [eN], h, by
  rw [Sc.sc]
  congr 1
  apply El.eq <;> simp [emul]⟩
theorem Hom.pr {I I' : Ide} (h : Hom s n I I') (J : Ide) : Hom s n (Pr s n I J) (Pr s n I' J) := by
  obtain ⟨α, β, h1, h2, h3⟩ := h
  exact ⟨α, β, h1, h2, by rw [← Pr.sc, h3, Pr.sc]⟩
theorem Hom.pr2 {I I' J J' : Ide} (h : Hom s n I I') (k : Hom s n J J') : Hom s n (Pr s n I J) (Pr s n I' J') := by
  refine (h.pr J).trans ?_
  rw [Pr.comm I' J, Pr.comm I' J']
  exact k.pr I'

/-- The ideal of a and w - h. -/
def Id (a h : Int) : Ide := fun z => a ∣ z.u + h * z.v
theorem Id.isAdd (a h : Int) : IsAdd (Id a h) := by
  refine ⟨?_, ?_, ?_⟩
  · simp [Id]
  · rintro x y ⟨k, hk⟩ ⟨l, hl⟩
    exact ⟨k + l, by simp only [eadd]; grind⟩
  · rintro x ⟨k, hk⟩
    exact ⟨-k, by simp only [eneg]; grind⟩
theorem Id.shift (a h t : Int) : Id a (h + a * t) = Id a h := funext fun z => propext ⟨fun ⟨k, hk⟩ => ⟨k - t * z.v, by grind⟩, fun ⟨k, hk⟩ => ⟨k + t * z.v, by grind⟩⟩
theorem Id.swap {a h c : Int} (hc : c ≠ 0) (ha : a ≠ 0) (hn : h * h - s * h + n = a * c) : Hom s n (Id a h) (Id c (s - h)) := by
  refine ⟨⟨s - h, -1⟩, ⟨a, 0⟩, ?_, ?_, ?_⟩
  · have : eN s n ⟨s - h, -1⟩ = a * c := by simp only [eN]; grind
    rw [this]; exact Int.mul_ne_zero ha hc
  · have : eN s n ⟨a, 0⟩ = a * a := by simp only [eN]; grind
    rw [this]; exact Int.mul_ne_zero ha ha
  · funext z
    refine propext ⟨?_, ?_⟩
    · rintro ⟨x, ⟨k, hk⟩, rfl⟩
      refine ⟨⟨(s - h) * k + c * x.v, -k⟩, ⟨x.v, by grind⟩, ?_⟩
      apply El.eq <;> simp only [emul] <;> grind
    · rintro ⟨x, ⟨v, hv⟩, rfl⟩
      refine ⟨⟨a * (-x.v) - h * v, v⟩, ⟨-x.v, by grind⟩, ?_⟩
      apply El.eq <;> simp only [emul] <;> grind
/-- The product of an ideal by the whole order. -/
theorem Id.unit {a h c : Int} (hn : h * h - s * h + n = a * c) (h1 : Int) : Pr s n (Id a h) (Id 1 h1) = Id a h := funext fun z => propext ⟨fun hz =>
    hz _ (Id.isAdd a h) (by
      rintro x y ⟨k, hk⟩ _
      exact ⟨k * y.u + k * h * y.v - c * x.v * y.v + s * k * y.v - s * k * y.v, by simp only [emul]; grind⟩),
  fun hz => by
    have e : z = emul s n z ⟨1, 0⟩ := by apply El.eq <;> simp [emul]
    rw [e]
    exact Pr.mk hz ⟨1, by simp⟩⟩
/-- The product of united ideals. -/
theorem Id.comp {a e h c x y : Int} (hn : h * h - s * h + n = a * e * c) (hg : x * a + y * e = 1) : Pr s n (Id a h) (Id e h) = Id (a * e) h := funext fun z => propext ⟨fun hz =>
    hz _ (Id.isAdd _ _) (by
      rintro p q ⟨k, hk⟩ ⟨l, hl⟩
      exact ⟨k * l - c * p.v * q.v, by simp only [emul]; grind⟩),
  fun ⟨k, hk⟩ => by
    have hA := Pr.isAdd (s := s) (n := n) (Id a h) (Id e h)
    have m1 : Pr s n (Id a h) (Id e h) (emul s n ⟨a, 0⟩ ⟨e, 0⟩) := Pr.mk ⟨1, by simp⟩ ⟨1, by simp⟩
    have m2 : Pr s n (Id a h) (Id e h) (emul s n ⟨a, 0⟩ ⟨-h, 1⟩) := Pr.mk ⟨1, by simp⟩ ⟨0, by simp; omega⟩
    have m3 : Pr s n (Id a h) (Id e h) (emul s n ⟨-h, 1⟩ ⟨e, 0⟩) := Pr.mk ⟨0, by simp; omega⟩ ⟨1, by simp⟩
    have := hA.add _ _ (hA.sm m1 k) (hA.add _ _ (hA.sm m2 (z.v * x)) (hA.sm m3 (z.v * y)))
    have e : z = eadd ⟨k * (emul s n ⟨a, 0⟩ ⟨e, 0⟩).u, k * (emul s n ⟨a, 0⟩ ⟨e, 0⟩).v⟩ (eadd ⟨z.v * x * (emul s n ⟨a, 0⟩ ⟨-h, 1⟩).u, z.v * x * (emul s n ⟨a, 0⟩ ⟨-h, 1⟩).v⟩ ⟨z.v * y * (emul s n ⟨-h, 1⟩ ⟨e, 0⟩).u, z.v * y * (emul s n ⟨-h, 1⟩ ⟨e, 0⟩).v⟩) := by
      apply El.eq <;> simp only [emul, eadd] <;> grind
    rw [e]; exact this⟩
/-- The product of an ideal by its conjugate. -/
theorem Id.inv {a h c x y z : Int} (hn : h * h - s * h + n = a * c) (hg : x * a + y * (2 * h - s) + z * c = 1) : Pr s n (Id a h) (Id a (s - h)) = Sc s n ⟨a, 0⟩ (Id 1 0) := funext fun t => propext ⟨fun ht =>
    ht _ (Sc.isAdd (Id.isAdd _ _)) (by
      rintro p q ⟨k, hk⟩ ⟨l, hl⟩
      refine ⟨⟨a * k * l - (s - h) * k * q.v - h * l * p.v - c * p.v * q.v, k * q.v + l * p.v⟩, ⟨_, (Int.one_mul _).symm⟩, ?_⟩
      apply El.eq <;> simp only [emul] <;> grind),
  fun ⟨t', _, ht⟩ => by
    have hA := Pr.isAdd (s := s) (n := n) (Id a h) (Id a (s - h))
    have m1 : Pr s n (Id a h) (Id a (s - h)) (emul s n ⟨a, 0⟩ ⟨a, 0⟩) := Pr.mk ⟨1, by simp⟩ ⟨1, by simp⟩
    have m2 : Pr s n (Id a h) (Id a (s - h)) (emul s n ⟨a, 0⟩ ⟨-(s - h), 1⟩) := Pr.mk ⟨1, by simp⟩ ⟨0, by simp; omega⟩
    have m3 : Pr s n (Id a h) (Id a (s - h)) (emul s n ⟨-h, 1⟩ ⟨a, 0⟩) := Pr.mk ⟨0, by simp; omega⟩ ⟨1, by simp⟩
    have m4 : Pr s n (Id a h) (Id a (s - h)) (emul s n ⟨-h, 1⟩ ⟨-(s - h), 1⟩) := Pr.mk ⟨0, by simp; omega⟩ ⟨0, by simp; omega⟩
    have m5 := hA.add _ _ (hA.sm m1 x) (hA.add _ _ (hA.add _ _ (hA.sm m2 y) (hA.sm m3 (-y))) (hA.sm m4 (-z)))
    generalize hm : eadd _ (eadd _ _) = w at m5
    have ew : w = ⟨a, 0⟩ := by
      rw [← hm]
      apply El.eq <;> simp only [emul, eadd] <;> grind
    rw [ew] at m5
    have m6 := hA.add _ _ (hA.sm m5 (t'.u + h * t'.v)) (hA.sm m3 t'.v)
    have et : t = eadd ⟨(t'.u + h * t'.v) * a, (t'.u + h * t'.v) * 0⟩ ⟨t'.v * (emul s n ⟨-h, 1⟩ ⟨a, 0⟩).u, t'.v * (emul s n ⟨-h, 1⟩ ⟨a, 0⟩).v⟩ := by
      rw [ht]
      apply El.eq <;> simp only [emul, eadd] <;> grind
    rw [et]; exact m6⟩
end
end Go.Proofs.Ytifkmjmhhklkjaa
