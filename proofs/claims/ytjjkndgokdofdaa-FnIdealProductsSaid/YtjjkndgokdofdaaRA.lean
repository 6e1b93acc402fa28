/- Plain facts: what a list of vectors generates; a basis in normal form. No program in sight. -/
import Derived.Test.YtjjkndgokdofdaaMM
namespace Go.Proofs.Ytjjkndgokdofdaa

/-- z is a sum of multiples of the vectors. -/
def Sp : List (Int × Int) → Int × Int → Prop
  | [], z => z = (0, 0)
  | x :: L, z => ∃ k : Int, Sp L (z.1 - k * x.1, z.2 - k * x.2)
theorem Sp.zero : ∀ L, Sp L (0, 0)
  | [] => rfl
  | x :: L => ⟨0, by simpa using Sp.zero L⟩
theorem Sp.add : ∀ (L : List (Int × Int)) {y z : Int × Int}, Sp L y → Sp L z → Sp L (y.1 + z.1, y.2 + z.2)
  | [], y, z, hy, hz => by
    have e1 : y = (0, 0) := hy
    have e2 : z = (0, 0) := hz
    rw [e1, e2]; rfl
  | x :: L, y, z, ⟨k, hy⟩, ⟨l, hz⟩ => ⟨k + l, by
    have := Sp.add L hy hz
    have e1 : y.1 + z.1 - (k + l) * x.1 = y.1 - k * x.1 + (z.1 - l * x.1) := by grind
    have e2 : y.2 + z.2 - (k + l) * x.2 = y.2 - k * x.2 + (z.2 - l * x.2) := by grind
    show Sp L (y.1 + z.1 - (k + l) * x.1, y.2 + z.2 - (k + l) * x.2)
    rw [e1, e2]; exact this⟩
theorem Sp.smul (m : Int) : ∀ (L : List (Int × Int)) {z : Int × Int}, Sp L z → Sp L (m * z.1, m * z.2)
  | [], z, h => by
    have e : z = (0, 0) := h
    rw [e]; show (m * 0, m * 0) = ((0 : Int), (0 : Int)); simp
  | x :: L, z, ⟨k, h⟩ => ⟨m * k, by
    have := Sp.smul m L h
    show Sp L (m * z.1 - m * k * x.1, m * z.2 - m * k * x.2)
    have e1 : m * z.1 - m * k * x.1 = m * (z.1 - k * x.1) := by grind
    have e2 : m * z.2 - m * k * x.2 = m * (z.2 - k * x.2) := by grind
    rw [e1, e2]; exact this⟩
theorem Sp.mem : ∀ {L : List (Int × Int)} {x : Int × Int}, x ∈ L → Sp L x
  | y :: L, x, h => by
    rcases List.mem_cons.1 h with rfl | h
    · exact ⟨1, by simpa using Sp.zero L⟩
    · exact ⟨0, by simpa using Sp.mem h⟩
theorem Sp.mono : ∀ {L M : List (Int × Int)}, (∀ x ∈ L, Sp M x) → ∀ {z}, Sp L z → Sp M z
  | [], M, _, z, hz => by
    have e : z = (0, 0) := hz
    rw [e]; exact Sp.zero M
  | x :: L, M, h, z, ⟨k, hz⟩ => by
    have h1 := Sp.mono (L := L) (M := M) (fun y hy => h y (by simp [hy])) hz
    have h2 := Sp.add M h1 (Sp.smul k M (h x (by simp)))
    have e : z = (z.1 - k * x.1 + k * x.1, z.2 - k * x.2 + k * x.2) := by
      refine Prod.ext ?_ ?_
      · show z.1 = z.1 - k * x.1 + k * x.1; omega
      · show z.2 = z.2 - k * x.2 + k * x.2; omega
    rw [e]; exact h2
/-- Two lists generate the same. -/
def SpEq (L M : List (Int × Int)) : Prop := ∀ z, Sp L z ↔ Sp M z
theorem SpEq.of {L M : List (Int × Int)} (h1 : ∀ x ∈ L, Sp M x) (h2 : ∀ x ∈ M, Sp L x) : SpEq L M := fun _ => ⟨Sp.mono h1, Sp.mono h2⟩
theorem SpEq.refl (L : List (Int × Int)) : SpEq L L := fun _ => Iff.rfl
theorem SpEq.symm {L M : List (Int × Int)} (h : SpEq L M) : SpEq M L := fun z => (h z).symm
theorem SpEq.trans {L M K : List (Int × Int)} (h : SpEq L M) (k : SpEq M K) : SpEq L K := fun z => (h z).trans (k z)
theorem SpEq.perm {L M : List (Int × Int)} (h : ∀ x, x ∈ L ↔ x ∈ M) : SpEq L M := SpEq.of (fun x hx => Sp.mem ((h x).1 hx)) (fun x hx => Sp.mem ((h x).2 hx))
theorem Sp.left {L M : List (Int × Int)} {z : Int × Int} (h : Sp L z) : Sp (L ++ M) z := Sp.mono (fun _ hx => Sp.mem (List.mem_append_left _ hx)) h
theorem Sp.right {L M : List (Int × Int)} {z : Int × Int} (h : Sp M z) : Sp (L ++ M) z := Sp.mono (fun _ hx => Sp.mem (List.mem_append_right _ hx)) h
theorem SpEq.app {L L' M M' : List (Int × Int)} (h : SpEq L L') (k : SpEq M M') : SpEq (L ++ M) (L' ++ M') := by
  refine SpEq.of (fun x hx => ?_) (fun x hx => ?_)
  · rcases List.mem_append.1 hx with hx | hx
    · exact Sp.left ((h x).1 (Sp.mem hx))
    · exact Sp.right ((k x).1 (Sp.mem hx))
  · rcases List.mem_append.1 hx with hx | hx
    · exact Sp.left ((h x).2 (Sp.mem hx))
    · exact Sp.right ((k x).2 (Sp.mem hx))
/-- A multiple of one vector is taken from another one. -/
theorem Sp.two {a b x y u v : Int} (k l : Int) (h1 : u = k * a + l * x) (h2 : v = k * b + l * y) : Sp [(a, b), (x, y)] (u, v) := by
  refine ⟨k, l, ?_⟩
  show (u - k * a - l * x, v - k * b - l * y) = ((0 : Int), (0 : Int))
  rw [h1, h2]
  refine Prod.ext ?_ ?_
  · show k * a + l * x - k * a - l * x = 0; omega
  · show k * b + l * y - k * b - l * y = 0; omega
theorem Sp.two_iff {a b x y u v : Int} : Sp [(a, b), (x, y)] (u, v) ↔ ∃ k l : Int, u = k * a + l * x ∧ v = k * b + l * y := by
  constructor
  · rintro ⟨k, l, h⟩
    have h' : (u - k * a - l * x, v - k * b - l * y) = ((0 : Int), (0 : Int)) := h
    obtain ⟨h1, h2⟩ := Prod.mk.inj h'
    exact ⟨k, l, by omega, by omega⟩
  · rintro ⟨k, l, h1, h2⟩
    exact Sp.two k l h1 h2
theorem SpEq.step (q : Int) (b d x y : Int) : SpEq [(x, y), (b - q * x, d - q * y)] [(b, d), (x, y)] := by
  refine SpEq.of (fun z hz => ?_) (fun z hz => ?_)
  · rcases List.mem_cons.1 hz with rfl | hz
    · exact Sp.mem (by simp)
    · obtain rfl := List.mem_singleton.1 hz
      exact Sp.two 1 (-q) (by grind) (by grind)
  · rcases List.mem_cons.1 hz with rfl | hz
    · exact Sp.two q 1 (by grind) (by grind)
    · obtain rfl := List.mem_singleton.1 hz
      exact Sp.mem (by simp)
/-- The rest by a vector with 0. -/
theorem SpEq.red (k : Int) (a x y : Int) : SpEq [(a, 0), (x + k * a, y)] [(a, 0), (x, y)] := by
  refine SpEq.of (fun z hz => ?_) (fun z hz => ?_)
  · rcases List.mem_cons.1 hz with rfl | hz
    · exact Sp.mem (by simp)
    · obtain rfl := List.mem_singleton.1 hz
      exact Sp.two k 1 (by grind) (by grind)
  · rcases List.mem_cons.1 hz with rfl | hz
    · exact Sp.mem (by simp)
    · obtain rfl := List.mem_singleton.1 hz
      exact Sp.two (-k) 1 (by grind) (by grind)
theorem SpEq.gcd (a x : Int) : SpEq [((Int.gcd a x : Int), 0)] [(a, 0), (x, 0)] := by
  refine SpEq.of (fun z hz => ?_) (fun z hz => ?_)
  · obtain rfl := List.mem_singleton.1 hz
    obtain ⟨u, v, h⟩ := bez a x
    exact Sp.two u v h.symm (by simp)
  · have hd1 : ((Int.gcd a x : Nat) : Int) ∣ a := Int.gcd_dvd_left ..
    have hd2 : ((Int.gcd a x : Nat) : Int) ∣ x := Int.gcd_dvd_right ..
    rcases List.mem_cons.1 hz with rfl | hz
    · obtain ⟨u, hu⟩ := hd1
      refine ⟨u, ?_⟩
      show (a - u * (Int.gcd a x : Int), 0 - u * 0) = ((0 : Int), (0 : Int))
      rw [Int.mul_comm u, ← hu]; simp
    · obtain rfl := List.mem_singleton.1 hz
      obtain ⟨u, hu⟩ := hd2
      refine ⟨u, ?_⟩
      show (x - u * (Int.gcd a x : Int), 0 - u * 0) = ((0 : Int), (0 : Int))
      rw [Int.mul_comm u, ← hu]; simp
theorem SpEq.neg (a x y : Int) : SpEq [(a, 0), (-x, -y)] [(a, 0), (x, y)] := by
  refine SpEq.of (fun z hz => ?_) (fun z hz => ?_)
  · rcases List.mem_cons.1 hz with rfl | hz
    · exact Sp.mem (by simp)
    · obtain rfl := List.mem_singleton.1 hz
      exact Sp.two 0 (-1) (by omega) (by omega)
  · rcases List.mem_cons.1 hz with rfl | hz
    · exact Sp.mem (by simp)
    · obtain rfl := List.mem_singleton.1 hz
      exact Sp.two 0 (-1) (by omega) (by omega)
/-- The normal form is unique. -/
theorem hnf_uniq {a b d n u e : Int} (ha : 0 < a) (hd : 0 < d) (hn : 0 ≤ n) (he : 0 ≤ e) (h : SpEq [(n, 0), (u, e)] [(a, 0), (b, d)]) : e = d ∧ n = a ∧ a ∣ u - b := by
  obtain ⟨k1, l1, p1, p2⟩ := Sp.two_iff.1 ((h (u, e)).1 (Sp.mem (by simp)))
  obtain ⟨k2, l2, q1, q2⟩ := Sp.two_iff.1 ((h (b, d)).2 (Sp.mem (by simp)))
  obtain ⟨k3, l3, r1, r2⟩ := Sp.two_iff.1 ((h (n, 0)).1 (Sp.mem (by simp)))
  obtain ⟨k4, l4, s1, s2⟩ := Sp.two_iff.1 ((h (a, 0)).2 (Sp.mem (by simp)))
  rw [Int.mul_zero, Int.zero_add] at p2 q2 r2 s2
  have hl3 : l3 = 0 := by
    rcases Int.mul_eq_zero.1 r2.symm with h1 | h1
    · exact h1
    · omega
  have he0 : e ≠ 0 := fun h0 => by rw [h0, Int.mul_zero] at q2; omega
  have hl4 : l4 = 0 := by
    rcases Int.mul_eq_zero.1 s2.symm with h1 | h1
    · exact h1
    · omega
  subst hl3; subst hl4
  rw [Int.zero_mul, Int.add_zero] at r1 s1
  have d1 : d ∣ e := ⟨l1, by rw [p2, Int.mul_comm]⟩
  have d2 : e ∣ d := ⟨l2, by rw [q2, Int.mul_comm]⟩
  have e1 : e = d := Int.dvd_antisymm he (by omega) d2 d1
  subst e1
  have hl1 : l1 = 1 := by
    have : e * l1 = e * 1 := by rw [Int.mul_one, Int.mul_comm]; exact p2.symm
    exact Int.eq_of_mul_eq_mul_left he0 this
  subst hl1
  refine ⟨rfl, Int.dvd_antisymm hn (by omega) ⟨k4, by rw [s1, Int.mul_comm]⟩ ⟨k3, by rw [r1, Int.mul_comm]⟩, ⟨k1, by rw [p1]; grind⟩⟩
theorem hnf_step : ∀ (N : Nat) (n u e x y : Int), y.natAbs < N → ∃ n' u' e', 0 ≤ n' ∧ SpEq [(n', 0), (u', e')] [(n, 0), (u, e), (x, y)]
  | 0, _, _, _, _, _, h => absurd h (by omega)
  | N + 1, n, u, e, x, y, h => by
    by_cases hy : y = 0
    · subst hy
      refine ⟨(Int.gcd n x : Int), u, e, by omega, ?_⟩
      have h1 := SpEq.app (SpEq.gcd n x) (SpEq.refl [(u, e)])
      refine h1.trans (SpEq.perm fun z => ?_)
      simp only [List.cons_append, List.nil_append, List.mem_cons, List.not_mem_nil, or_false]
      exact ⟨fun h => by rcases h with h | h | h <;> simp [h], fun h => by rcases h with h | h | h <;> simp [h]⟩
    · obtain ⟨n', u', e', h1, h2⟩ := hnf_step N n x y (u - e / y * x) (e - e / y * y) (by
        have e1 : e - e / y * y = e % y := by have := Int.mul_ediv_add_emod e y; rw [Int.mul_comm] at this; omega
        rw [e1]
        have h3 := Int.emod_nonneg e hy
        have h4 := Int.emod_lt e hy
        omega)
      exact ⟨n', u', e', h1, h2.trans (SpEq.app (SpEq.refl [(n, 0)]) (SpEq.step _ _ _ _ _))⟩
theorem hnf_ex : ∀ L : List (Int × Int), ∃ n u e, 0 ≤ n ∧ 0 ≤ e ∧ SpEq [(n, 0), (u, e)] L
  | [] => ⟨0, 0, 0, by omega, by omega, SpEq.of (fun x hx => by
      rcases List.mem_cons.1 hx with rfl | hx
      · exact rfl
      · obtain rfl := List.mem_singleton.1 hx; exact rfl) (fun x hx => by simp at hx)⟩
  | x :: L => by
    obtain ⟨n, u, e, h1, h2, h3⟩ := hnf_ex L
    obtain ⟨n', u', e', k1, k2⟩ := hnf_step _ n u e x.1 x.2 (Nat.lt_succ_self _)
    have k3 : SpEq [(n', 0), (u', e')] (x :: L) := k2.trans ((SpEq.app h3 (SpEq.refl [x])).trans (SpEq.perm fun z => by simp [or_comm]))
    rcases Int.le_total 0 e' with h0 | h0
    · exact ⟨n', u', e', k1, h0, k3⟩
    · exact ⟨n', -u', -e', k1, by omega, (SpEq.neg _ _ _).trans k3⟩
end Go.Proofs.Ytjjkndgokdofdaa
