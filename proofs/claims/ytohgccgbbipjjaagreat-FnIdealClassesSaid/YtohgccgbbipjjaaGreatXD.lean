/- Parts RA RB laid together by tp.py. -/
import Derived.Test.YtohgccgbbipjjaaGreatMM
namespace Go.Proofs.YtohgccgbbipjjaaGreat
section

/-- z is a sum of multiples of the vectors. -/
def Sp : List (Int × Int) → Int × Int → Prop
  | [], z => z = (0, 0)
  | x :: L, z => ∃ k : Int, Sp L (z.1 - k * x.1, z.2 - k * x.2)
theorem Sp.zero : ∀ L, Sp L (0, 0)
  | [] => rfl
  | x :: L => ⟨0, by simpa using Sp.zero L⟩
theorem Sp.add : ∀ (L : List (Int × Int)) {y z : Int × Int}, Sp L y → Sp L z → Sp L (y.1 + z.1, y.2 + z.2)
  | [], y, z, hy, hz => by
    have e1 : y = (0, 0) := hy
    have e2 : z = (0, 0) := hz
    rw [e1, e2]; rfl
  | x :: L, y, z, ⟨k, hy⟩, ⟨l, hz⟩ => ⟨k + l, by
    have := Sp.add L hy hz
    have e1 : y.1 + z.1 - (k + l) * x.1 = y.1 - k * x.1 + (z.1 - l * x.1) := by grind
    have e2 : y.2 + z.2 - (k + l) * x.2 = y.2 - k * x.2 + (z.2 - l * x.2) := by grind
    show Sp L (y.1 + z.1 - (k + l) * x.1, y.2 + z.2 - (k + l) * x.2)
    rw [e1, e2]; exact this⟩
theorem Sp.smul (m : Int) : ∀ (L : List (Int × Int)) {z : Int × Int}, Sp L z → Sp L (m * z.1, m * z.2)
  | [], z, h => by
    have e : z = (0, 0) := h
    rw [e]; show (m * 0, m * 0) = ((0 : Int), (0 : Int)); simp
  | x :: L, z, ⟨k, h⟩ => ⟨m * k, by
    have := Sp.smul m L h
    show Sp L (m * z.1 - m * k * x.1, m * z.2 - m * k * x.2)
    have e1 : m * z.1 - m * k * x.1 = m * (z.1 - k * x.1) := by grind
    have e2 : m * z.2 - m * k * x.2 = m * (z.2 - k * x.2) := by grind
    rw [e1, e2]; exact this⟩
theorem Sp.mem : ∀ {L : List (Int × Int)} {x : Int × Int}, x ∈ L → Sp L x
  | y :: L, x, h => by
    rcases List.mem_cons.1 h with rfl | h
    · exact ⟨1, by simpa using Sp.zero L⟩
    · exact ⟨0, by simpa using Sp.mem h⟩
theorem Sp.mono : ∀ {L M : List (Int × Int)}, (∀ x ∈ L, Sp M x) → ∀ {z}, Sp L z → Sp M z
  | [], M, _, z, hz => by
    have e : z = (0, 0) := hz
    rw [e]; exact Sp.zero M
  | x :: L, M, h, z, ⟨k, hz⟩ => by
    have h1 := Sp.mono (L := L) (M := M) (fun y hy => h y (by simp [hy])) hz
    have h2 := Sp.add M h1 (Sp.smul k M (h x (by simp)))
    have e : z = (z.1 - k * x.1 + k * x.1, z.2 - k * x.2 + k * x.2) := by
      refine Prod.ext ?_ ?_
      · show z.1 = z.1 - k * x.1 + k * x.1; omega
      · show z.2 = z.2 - k * x.2 + k * x.2; omega
    rw [e]; exact h2
/-- Two lists generate the same. -/
def SpEq (L M : List (Int × Int)) : Prop := ∀ z, Sp L z ↔ Sp M z
theorem SpEq.of {L M : List (Int × Int)} (h1 : ∀ x ∈ L, Sp M x) (h2 : ∀ x ∈ M, Sp L x) : SpEq L M := fun _ => ⟨Sp.mono h1, Sp.mono h2⟩
theorem SpEq.refl (L : List (Int × Int)) : SpEq L L := fun _ => Iff.rfl
theorem SpEq.symm {L M : List (Int × Int)} (h : SpEq L M) : SpEq M L := fun z => (h z).symm
theorem SpEq.trans {L M K : List (Int × Int)} (h : SpEq L M) (k : SpEq M K) : SpEq L K := fun z => (h z).trans (k z)
theorem SpEq.perm {L M : List (Int × Int)} (h : ∀ x, x ∈ L ↔ x ∈ M) : SpEq L M := SpEq.of (fun x hx => Sp.mem ((h x).1 hx)) (fun x hx => Sp.mem ((h x).2 hx))
theorem Sp.left {L M : List (Int × Int)} {z : Int × Int} (h : Sp L z) : Sp (L ++ M) z := Sp.mono (fun _ hx => Sp.mem (List.mem_append_left _ hx)) h
theorem Sp.right {L M : List (Int × Int)} {z : Int × Int} (h : Sp M z) : Sp (L ++ M) z := Sp.mono (fun _ hx => Sp.mem (List.mem_append_right _ hx)) h
theorem SpEq.app {L L' M M' : List (Int × Int)} (h : SpEq L L') (k : SpEq M M') : SpEq (L ++ M) (L' ++ M') := by
  refine SpEq.of (fun x hx => ?_) (fun x hx => ?_)
  · rcases List.mem_append.1 hx with hx | hx
    · exact Sp.left ((h x).1 (Sp.mem hx))
    · exact Sp.right ((k x).1 (Sp.mem hx))
  · rcases List.mem_append.1 hx with hx | hx
    · exact Sp.left ((h x).2 (Sp.mem hx))
    · exact Sp.right ((k x).2 (Sp.mem hx))
/-- A multiple of one vector is taken from another one. -/
theorem Sp.two {a b x y u v : Int} (k l : Int) (h1 : u = k * a + l * x) (h2 : v = k * b + l * y) : Sp [(a, b), (x, y)] (u, v) := by
  refine ⟨k, l, ?_⟩
  show (u - k * a - l * x, v - k * b - l * y) = ((0 : Int), (0 : Int))
  rw [h1, h2]
  refine Prod.ext ?_ ?_
  · show k * a + l * x - k * a - l * x = 0; omega
  · show k * b + l * y - k * b - l * y = 0; omega
theorem Sp.two_iff {a b x y u v : Int} : Sp [(a, b), (x, y)] (u, v) ↔ ∃ k l : Int, u = k * a + l * x ∧ v = k * b + l * y := by
  constructor
  · rintro ⟨k, l, h⟩
    have h' : (u - k * a - l * x, v - k * b - l * y) = ((0 : Int), (0 : Int)) := h
    obtain ⟨h1, h2⟩ := Prod.mk.inj h'
    exact ⟨k, l, by omega, by omega⟩
  · rintro ⟨k, l, h1, h2⟩
    exact Sp.two k l h1 h2
theorem SpEq.step (q : Int) (b d x y : Int) : SpEq [(x, y), (b - q * x, d - q * y)] [(b, d), (x, y)] := by
  refine SpEq.of (fun z hz => ?_) (fun z hz => ?_)
  · rcases List.mem_cons.1 hz with rfl | hz
    · exact Sp.mem (by simp)
    · obtain rfl := List.mem_singleton.1 hz
      exact Sp.two 1 (-q) (by grind) (by grind)
  · rcases List.mem_cons.1 hz with rfl | hz
    · exact Sp.two q 1 (by grind) (by grind)
    · obtain rfl := List.mem_singleton.1 hz
      exact Sp.mem (by simp)
/-- The rest by a vector with 0. -/
theorem SpEq.red (k : Int) (a x y : Int) : SpEq [(a, 0), (x + k * a, y)] [(a, 0), (x, y)] := by
  refine SpEq.of (fun z hz => ?_) (fun z hz => ?_)
  · rcases List.mem_cons.1 hz with rfl | hz
    · exact Sp.mem (by simp)
    · obtain rfl := List.mem_singleton.1 hz
      exact Sp.two k 1 (by grind) (by grind)
  · rcases List.mem_cons.1 hz with rfl | hz
    · exact Sp.mem (by simp)
    · obtain rfl := List.mem_singleton.1 hz
      exact Sp.two (-k) 1 (by grind) (by grind)
theorem SpEq.gcd (a x : Int) : SpEq [((Int.gcd a x : Int), 0)] [(a, 0), (x, 0)] := by
  refine SpEq.of (fun z hz => ?_) (fun z hz => ?_)
  · obtain rfl := List.mem_singleton.1 hz
    obtain ⟨u, v, h⟩ := bez a x
    exact Sp.two u v h.symm (by simp)
  · have hd1 : ((Int.gcd a x : Nat) : Int) ∣ a := Int.gcd_dvd_left ..
    have hd2 : ((Int.gcd a x : Nat) : Int) ∣ x := Int.gcd_dvd_right ..
    rcases List.mem_cons.1 hz with rfl | hz
    · obtain ⟨u, hu⟩ := hd1
      refine ⟨u, ?_⟩
      show (a - u * (Int.gcd a x : Int), 0 - u * 0) = ((0 : Int), (0 : Int))
      rw [Int.mul_comm u, ← hu]; simp
    · obtain rfl := List.mem_singleton.1 hz
      obtain ⟨u, hu⟩ := hd2
      refine ⟨u, ?_⟩
      show (x - u * (Int.gcd a x : Int), 0 - u * 0) = ((0 : Int), (0 : Int))
      rw [Int.mul_comm u, ← hu]; simp
theorem SpEq.neg (a x y : Int) : SpEq [(a, 0), (-x, -y)] [(a, 0), (x, y)] := by
  refine SpEq.of (fun z hz => ?_) (fun z hz => ?_)
  · rcases List.mem_cons.1 hz with rfl | hz
    · exact Sp.mem (by simp)
    · obtain rfl := List.mem_singleton.1 hz
      exact Sp.two 0 (-1) (by omega) (by omega)
  · rcases List.mem_cons.1 hz with rfl | hz
    · exact Sp.mem (by simp)
    · obtain rfl := List.mem_singleton.1 hz
      exact Sp.two 0 (-1) (by omega) (by omega)
/-- The normal form is unique. -/
theorem hnf_uniq {a b d n u e : Int} (ha : 0 < a) (hd : 0 < d) (hn : 0 ≤ n) (he : 0 ≤ e) (h : SpEq [(n, 0), (u, e)] [(a, 0), (b, d)]) : e = d ∧ n = a ∧ a ∣ u - b := by
  obtain ⟨k1, l1, p1, p2⟩ := Sp.two_iff.1 ((h (u, e)).1 (Sp.mem (by simp)))
  obtain ⟨k2, l2, q1, q2⟩ := Sp.two_iff.1 ((h (b, d)).2 (Sp.mem (by simp)))
  obtain ⟨k3, l3, r1, r2⟩ := Sp.two_iff.1 ((h (n, 0)).1 (Sp.mem (by simp)))
  obtain ⟨k4, l4, s1, s2⟩ := Sp.two_iff.1 ((h (a, 0)).2 (Sp.mem (by simp)))
  rw [Int.mul_zero, Int.zero_add] at p2 q2 r2 s2
  have hl3 : l3 = 0 := by
    rcases Int.mul_eq_zero.1 r2.symm with h1 | h1
    · exact h1
    · omega
  have he0 : e ≠ 0 := fun h0 => by rw [h0, Int.mul_zero] at q2; omega
  have hl4 : l4 = 0 := by
    rcases Int.mul_eq_zero.1 s2.symm with h1 | h1
    · exact h1
    · omega
  subst hl3; subst hl4
  rw [Int.zero_mul, Int.add_zero] at r1 s1
  have d1 : d ∣ e := ⟨l1, by rw [p2, Int.mul_comm]⟩
  have d2 : e ∣ d := ⟨l2, by rw [q2, Int.mul_comm]⟩
  have e1 : e = d := Int.dvd_antisymm he (by omega) d2 d1
  subst e1
  have hl1 : l1 = 1 := by
    have : e * l1 = e * 1 := by rw [Int.mul_one, Int.mul_comm]; exact p2.symm
    exact Int.eq_of_mul_eq_mul_left he0 this
  subst hl1
  refine ⟨rfl, Int.dvd_antisymm hn (by omega) ⟨k4, by rw [s1, Int.mul_comm]⟩ ⟨k3, by rw [r1, Int.mul_comm]⟩, ⟨k1, by rw [p1]; grind⟩⟩
theorem hnf_step : ∀ (N : Nat) (n u e x y : Int), y.natAbs < N → ∃ n' u' e', 0 ≤ n' ∧ SpEq [(n', 0), (u', e')] [(n, 0), (u, e), (x, y)]
  | 0, _, _, _, _, _, h => absurd h (by omega)
  | N + 1, n, u, e, x, y, h => by
    by_cases hy : y = 0
    · subst hy
      refine ⟨(Int.gcd n x : Int), u, e, by omega, ?_⟩
      have h1 := SpEq.app (SpEq.gcd n x) (SpEq.refl [(u, e)])
      refine h1.trans (SpEq.perm fun z => ?_)
      simp only [List.cons_append, List.nil_append, List.mem_cons, List.not_mem_nil, or_false]
      exact ⟨fun h => by rcases h with h | h | h <;> simp [h], fun h => by rcases h with h | h | h <;> simp [h]⟩
    · obtain ⟨n', u', e', h1, h2⟩ := hnf_step N n x y (u - e / y * x) (e - e / y * y) (by
        have e1 : e - e / y * y = e % y := by have := Int.mul_ediv_add_emod e y; rw [Int.mul_comm] at this; omega
        rw [e1]
        have h3 := Int.emod_nonneg e hy
        have h4 := Int.emod_lt e hy
        omega)
      exact ⟨n', u', e', h1, h2.trans (SpEq.app (SpEq.refl [(n, 0)]) (SpEq.step _ _ _ _ _))⟩
theorem hnf_ex : ∀ L : List (Int × Int), ∃ n u e, 0 ≤ n ∧ 0 ≤ e ∧ SpEq [(n, 0), (u, e)] L
  | [] => ⟨0, 0, 0, by omega, by omega, SpEq.of (fun x hx => by
      rcases List.mem_cons.1 hx with rfl | hx
      · exact rfl
      · obtain rfl := List.mem_singleton.1 hx; exact rfl) (fun x hx => by simp at hx)⟩
  | x :: L => by
    obtain ⟨n, u, e, h1, h2, h3⟩ := hnf_ex L
    obtain ⟨n', u', e', k1, k2⟩ := hnf_step _ n u e x.1 x.2 (Nat.lt_succ_self _)
    have k3 : SpEq [(n', 0), (u', e')] (x :: L) := k2.trans ((SpEq.app h3 (SpEq.refl [x])).trans (SpEq.perm fun z => by simp [or_comm]))
    rcases Int.le_total 0 e' with h0 | h0
    · exact ⟨n', u', e', k1, h0, k3⟩
    · exact ⟨n', -u', -e', k1, by omega, (SpEq.neg _ _ _).trans k3⟩
end

section

/-- The products of the generators a, w - h and a', w - h', as (U + V*sqrt d)/2. -/
def vL (s n a h a' h' : Int) : List (Int × Int) := [(2 * a * a', 0), (-a * (2 * h' - s), a), (-a' * (2 * h - s), a'), (2 * (h * h') - s * (h + h') + s * s - 2 * n, -(h + h' - s))]
def Tu (s : Int) (z : El) : Int × Int := (2 * z.u + s * z.v, z.v)
theorem Sp.four {x y z w : Int × Int} {t : Int × Int} : Sp [x, y, z, w] t ↔ ∃ k1 k2 k3 k4 : Int, t.1 = k1 * x.1 + k2 * y.1 + k3 * z.1 + k4 * w.1 ∧ t.2 = k1 * x.2 + k2 * y.2 + k3 * z.2 + k4 * w.2 := by
  constructor
  · rintro ⟨k1, k2, k3, k4, h⟩
    have h' : (t.1 - k1 * x.1 - k2 * y.1 - k3 * z.1 - k4 * w.1, t.2 - k1 * x.2 - k2 * y.2 - k3 * z.2 - k4 * w.2) = ((0 : Int), (0 : Int)) := h
    obtain ⟨h1, h2⟩ := Prod.mk.inj h'
    exact ⟨k1, k2, k3, k4, by omega, by omega⟩
  · rintro ⟨k1, k2, k3, k4, h1, h2⟩
    refine ⟨k1, k2, k3, k4, ?_⟩
    show (t.1 - k1 * x.1 - k2 * y.1 - k3 * z.1 - k4 * w.1, t.2 - k1 * x.2 - k2 * y.2 - k3 * z.2 - k4 * w.2) = ((0 : Int), (0 : Int))
    exact Prod.ext (by show t.1 - k1 * x.1 - k2 * y.1 - k3 * z.1 - k4 * w.1 = 0; omega) (by show t.2 - k1 * x.2 - k2 * y.2 - k3 * z.2 - k4 * w.2 = 0; omega)
section
variable {s n a h a' h' : Int}
theorem prod_span (z : El) : Pr s n (Id a h) (Id a' h') z ↔ Sp (vL s n a h a' h') (Tu s z) := by
  constructor
  · intro hz
    refine hz (fun z => Sp (vL s n a h a' h') (Tu s z)) ⟨?_, ?_, ?_⟩ ?_
    · have : Tu s ⟨0, 0⟩ = (0, 0) := by unfold Tu; simp
      show Sp _ _
      rw [this]; exact Sp.zero _
    · intro x y hx hy
      have := Sp.add _ hx hy
      have e : Tu s (eadd x y) = ((Tu s x).1 + (Tu s y).1, (Tu s x).2 + (Tu s y).2) := by
        unfold Tu eadd
        refine Prod.ext ?_ rfl
        show 2 * (x.u + y.u) + s * (x.v + y.v) = 2 * x.u + s * x.v + (2 * y.u + s * y.v)
        grind
      show Sp _ _
      rw [e]; exact this
    · intro x hx
      have := Sp.smul (-1) _ hx
      have e : Tu s (eneg x) = (-1 * (Tu s x).1, -1 * (Tu s x).2) := by
        unfold Tu eneg
        refine Prod.ext ?_ ?_
        · show 2 * (-x.u) + s * (-x.v) = -1 * (2 * x.u + s * x.v)
          grind
        · show -x.v = -1 * x.v
          omega
      show Sp _ _
      rw [e]; exact this
    · rintro x y ⟨k, hk⟩ ⟨l, hl⟩
      refine Sp.four.2 ⟨k * l, k * y.v, x.v * l, x.v * y.v, ?_, ?_⟩
      · have e1 : x.u = a * k - h * x.v := by omega
        have e2 : y.u = a' * l - h' * y.v := by omega
        simp only [Tu, emul]
        rw [e1, e2]; grind
      · have e1 : x.u = a * k - h * x.v := by omega
        have e2 : y.u = a' * l - h' * y.v := by omega
        simp only [Tu, emul]
        rw [e1, e2]; grind
  · intro hz
    obtain ⟨k1, k2, k3, k4, h1, h2⟩ := Sp.four.1 hz
    simp only [Tu] at h1 h2
    have g1 : Pr s n (Id a h) (Id a' h') (emul s n ⟨a, 0⟩ ⟨a', 0⟩) := Pr.mk ⟨1, by simp⟩ ⟨1, by simp⟩
    have g2 : Pr s n (Id a h) (Id a' h') (emul s n ⟨a, 0⟩ ⟨-h', 1⟩) := Pr.mk ⟨1, by simp⟩ ⟨0, by simp; omega⟩
    have g3 : Pr s n (Id a h) (Id a' h') (emul s n ⟨-h, 1⟩ ⟨a', 0⟩) := Pr.mk ⟨0, by simp; omega⟩ ⟨1, by simp⟩
    have g4 : Pr s n (Id a h) (Id a' h') (emul s n ⟨-h, 1⟩ ⟨-h', 1⟩) := Pr.mk ⟨0, by simp; omega⟩ ⟨0, by simp; omega⟩
    have A := Pr.isAdd (s := s) (n := n) (Id a h) (Id a' h')
    have := A.add _ _ (A.add _ _ (A.sm g1 k1) (A.sm g2 k2)) (A.add _ _ (A.sm g3 k3) (A.sm g4 k4))
    have e : z = eadd (eadd ⟨k1 * (emul s n ⟨a, 0⟩ ⟨a', 0⟩).u, k1 * (emul s n ⟨a, 0⟩ ⟨a', 0⟩).v⟩ ⟨k2 * (emul s n ⟨a, 0⟩ ⟨-h', 1⟩).u, k2 * (emul s n ⟨a, 0⟩ ⟨-h', 1⟩).v⟩)
        (eadd ⟨k3 * (emul s n ⟨-h, 1⟩ ⟨a', 0⟩).u, k3 * (emul s n ⟨-h, 1⟩ ⟨a', 0⟩).v⟩ ⟨k4 * (emul s n ⟨-h, 1⟩ ⟨-h', 1⟩).u, k4 * (emul s n ⟨-h, 1⟩ ⟨-h', 1⟩).v⟩) := by
      have e2 : z.v = k2 * a + k3 * a' - k4 * (h + h' - s) := by rw [h2]; grind
      apply El.eq
      · simp only [eadd, emul]
        have e3 : 2 * z.u = 2 * (k1 * (a * a') - k2 * (a * h') - k3 * (h * a') + k4 * (h * h' - n)) := by
          have : 2 * z.u = 2 * z.u + s * z.v - s * z.v := by omega
          rw [this, h1, e2]; grind
        have e4 : z.u = k1 * (a * a') - k2 * (a * h') - k3 * (h * a') + k4 * (h * h' - n) := by omega
        rw [e4]; grind
      · simp only [eadd, emul]
        rw [e2]; grind
    rw [e]; exact this
/-- What is said of the normal basis of the product. -/
structure HnP (s n a h a' h' N u e : Int) : Prop where
  N0 : 0 < N
  e0 : 0 < e
  sp : SpEq [(N, 0), (u, e)] (vL s n a h a' h')
theorem hnP_ex (ha : 0 < a) (ha' : 0 < a') : ∃ N u e, HnP s n a h a' h' N u e := by
  obtain ⟨N, u, e, h1, h2, h3⟩ := hnf_ex (vL s n a h a' h')
  obtain ⟨k, l, p1, p2⟩ := Sp.two_iff.1 ((h3 (-a * (2 * h' - s), a)).2 (Sp.mem (by unfold vL; simp)))
  obtain ⟨k', l', q1, q2⟩ := Sp.two_iff.1 ((h3 (2 * a * a', 0)).2 (Sp.mem (by unfold vL; simp)))
  have he : e ≠ 0 := fun h0 => by rw [h0] at p2; simp at p2; omega
  have hl : l' = 0 := by
    rw [Int.mul_zero, Int.zero_add] at q2
    rcases Int.mul_eq_zero.1 q2.symm with h4 | h4
    · exact h4
    · exact absurd h4 he
  refine ⟨N, u, e, ?_, by omega, h3⟩
  have hN : N ≠ 0 := fun h0 => by
    have q0 : 2 * a * a' = 0 := by rw [q1, h0, hl]; simp
    have := Int.mul_pos ha ha'
    rw [Int.mul_assoc] at q0
    omega
  omega
def GdE (s e : Int) (t : Int × Int) : Prop := ∃ p q, t.2 = e * q ∧ t.1 = e * (2 * p + s * q)
theorem GdE.comb {e : Int} {x y : Int × Int} (hx : GdE s e x) (hy : GdE s e y) (k l : Int) : GdE s e (k * x.1 + l * y.1, k * x.2 + l * y.2) := by
  obtain ⟨p, q, h1, h2⟩ := hx
  obtain ⟨p', q', h3, h4⟩ := hy
  exact ⟨k * p + l * p', k * q + l * q', by rw [h1, h3]; grind, by rw [h2, h4]; grind⟩
/-- The product is a multiple of an ideal. -/
theorem prod_ideal {N u e c : Int} (H : HnP s n a h a' h' N u e) (hc : h * h - s * h + n = a * c) :
    ∃ A p, N = 2 * e * A ∧ u = e * (2 * p + s) ∧ 0 < A ∧ e ∣ a ∧ e ∣ a' ∧ e ∣ h + h' - s ∧ Pr s n (Id a h) (Id a' h') = Sc s n ⟨e, 0⟩ (Id A (-p)) := by
  obtain ⟨N0, e0, sp⟩ := H
  have d1 : e ∣ a := by
    obtain ⟨k, l, p1, p2⟩ := Sp.two_iff.1 ((sp (-a * (2 * h' - s), a)).2 (Sp.mem (by unfold vL; simp)))
    exact ⟨l, by rw [p2]; grind⟩
  have d2 : e ∣ a' := by
    obtain ⟨k, l, p1, p2⟩ := Sp.two_iff.1 ((sp (-a' * (2 * h - s), a')).2 (Sp.mem (by unfold vL; simp)))
    exact ⟨l, by rw [p2]; grind⟩
  have d3 : e ∣ h + h' - s := by
    obtain ⟨k, l, p1, p2⟩ := Sp.two_iff.1 ((sp (2 * (h * h') - s * (h + h') + s * s - 2 * n, -(h + h' - s))).2 (Sp.mem (by unfold vL; simp)))
    exact ⟨-l, by
      have : h + h' - s = -(k * 0 + l * e) := by rw [← p2]; omega
      rw [this]; grind⟩
  have good : ∀ t, Sp [(N, 0), (u, e)] t → GdE s e t := by
    intro t ht
    obtain ⟨k1, k2, k3, k4, h1, h2⟩ := Sp.four.1 ((sp t).1 ht)
    simp only at h1 h2
    obtain ⟨x, hx⟩ := d1
    obtain ⟨y, hy⟩ := d2
    obtain ⟨z, hz⟩ := d3
    have w1 : GdE s e (2 * a * a', 0) := ⟨x * a', 0, by simp, by rw [hx]; grind⟩
    have w2 : GdE s e (-a * (2 * h' - s), a) := ⟨-(x * h'), x, by show a = e * x; exact hx, by show -a * (2 * h' - s) = _; rw [hx]; grind⟩
    have w3 : GdE s e (-a' * (2 * h - s), a') := ⟨-(y * h), y, by show a' = e * y; exact hy, by show -a' * (2 * h - s) = _; rw [hy]; grind⟩
    have w4 : GdE s e (2 * (h * h') - s * (h + h') + s * s - 2 * n, -(h + h' - s)) := ⟨h * z - x * c, -z, by show -(h + h' - s) = _; rw [hz]; grind, by
      show 2 * (h * h') - s * (h + h') + s * s - 2 * n = _
      have en : n = a * c - h * h + s * h := by omega
      have eh : h' = e * z + s - h := by omega
      rw [en, eh, hx]; grind⟩
    have c1 := GdE.comb w1 w2 k1 k2
    have c2 := GdE.comb w3 w4 k3 k4
    have c3 := GdE.comb c1 c2 1 1
    have e3 : t = (1 * (k1 * (2 * a * a') + k2 * (-a * (2 * h' - s))) + 1 * (k3 * (-a' * (2 * h - s)) + k4 * (2 * (h * h') - s * (h + h') + s * s - 2 * n)), 1 * (k1 * 0 + k2 * a) + 1 * (k3 * a' + k4 * -(h + h' - s))) :=
      Prod.ext (by rw [h1]; show _ = _; omega) (by rw [h2]; show _ = _; omega)
    rw [e3]; exact c3
  obtain ⟨p1, q1, r1, r2⟩ := good (N, 0) (Sp.mem (by simp))
  obtain ⟨p2, q2, t1, t2⟩ := good (u, e) (Sp.mem (by simp))
  simp only at r1 r2 t1 t2
  have hq1 : q1 = 0 := by
    rcases Int.mul_eq_zero.1 r1.symm with h4 | h4 <;> omega
  have hq2 : q2 = 1 := by
    have : e * q2 = e * 1 := by rw [Int.mul_one]; exact t1.symm
    exact Int.eq_of_mul_eq_mul_left (by omega) this
  subst hq1; subst hq2
  have hN : N = 2 * e * p1 := by rw [r2]; grind
  have hu : u = e * (2 * p2 + s) := by rw [t2]; grind
  have hA : 0 < p1 := by
    apply Classical.byContradiction
    intro hn
    have : e * p1 ≤ 0 := Int.mul_nonpos_of_nonneg_of_nonpos (by omega) (by omega)
    rw [Int.mul_assoc] at hN
    omega
  refine ⟨p1, p2, hN, hu, hA, d1, d2, d3, ?_⟩
  funext z
  refine propext ((prod_span z).trans ((sp (Tu s z)).symm.trans ?_))
  constructor
  · intro hz
    obtain ⟨k, l, h1, h2⟩ := Sp.two_iff.1 (show Sp [(N, 0), (u, e)] (2 * z.u + s * z.v, z.v) from hz)
    refine ⟨⟨k * p1 + l * p2, l⟩, ⟨k, by simp only; grind⟩, ?_⟩
    apply El.eq
    · simp only [emul]
      have e2 : 2 * z.u = 2 * (e * (k * p1 + l * p2)) := by
        have : 2 * z.u = 2 * z.u + s * z.v - s * z.v := by omega
        rw [this, h1, h2, hN, hu]; grind
      have e3 : z.u = e * (k * p1 + l * p2) := by omega
      rw [e3]; grind
    · simp only [emul]
      rw [h2]; grind
  · rintro ⟨x, ⟨k, hk⟩, rfl⟩
    refine Sp.two k x.v ?_ ?_
    · have e2 : x.u = p1 * k + p2 * x.v := by rw [← hk]; grind
      simp only [emul]
      rw [hN, hu, e2]; grind
    · simp only [emul]; grind
end
end
end Go.Proofs.YtohgccgbbipjjaaGreat
