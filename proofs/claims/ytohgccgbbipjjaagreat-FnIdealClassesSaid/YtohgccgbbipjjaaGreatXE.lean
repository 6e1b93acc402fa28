/- Parts ZA ZB laid together by tp.py. -/
import Derived.Test.YtohgccgbbipjjaaGreatXD
import Derived.Test.YtohgccgbbipjjaaGreatQY
namespace Go.Proofs.YtohgccgbbipjjaaGreat
section

/-- The product with the second basis element stays in the span. -/
theorem tau_closed {s m u v X Y : Int} (hs : s * s = s) (hX : s * u + (4 * m + s) * v = 2 * X) (hY : u + s * v = 2 * Y) {z : Int × Int} (h : Sp [(u, v), (X, Y)] z) :
    ∃ P Q, 2 * P = s * z.1 + (4 * m + s) * z.2 ∧ 2 * Q = z.1 + s * z.2 ∧ Sp [(u, v), (X, Y)] (P, Q) := by
  obtain ⟨z1, z2⟩ := z
  obtain ⟨k, l, h1, h2⟩ := Sp.two_iff.1 h
  refine ⟨k * X + l * (s * X + m * u), k * Y + l * (s * Y + m * v), ?_, ?_, Sp.two (l * m) (k + l * s) (by grind) (by grind)⟩
  · show 2 * (k * X + l * (s * X + m * u)) = s * z1 + (4 * m + s) * z2
    subst h1 h2
    grind
  · show 2 * (k * Y + l * (s * Y + m * v)) = z1 + s * z2
    subst h1 h2
    grind
/-- The normal basis of the multiples of an element. -/
theorem prn_ex {s m u v X Y a : Int} (hs : s * s = s) (hX : s * u + (4 * m + s) * v = 2 * X) (hY : u + s * v = 2 * Y) (ha : 0 < a) (hn : u * u - (4 * m + s) * v * v = 4 * a) :
    ∃ e A t, 0 < e ∧ 0 < A ∧ e * e * A = a ∧ SpEq [(2 * e * A, 0), (e * t, e)] [(u, v), (X, Y)] := by
  obtain ⟨n, w, e, n0, e0, hsp⟩ := hnf_ex [(u, v), (X, Y)]
  have hdet : u * Y - v * X = 2 * a := by
    have h1 : 2 * (u * Y - v * X) = 2 * (2 * a) := by
      have : 2 * (u * Y - v * X) = u * (2 * Y) - v * (2 * X) := by grind
      rw [this, ← hX, ← hY]
      grind
    omega
  obtain ⟨k1, l1, p1, p2⟩ := Sp.two_iff.1 ((hsp (u, v)).2 (Sp.mem (by simp)))
  obtain ⟨k2, l2, q1, q2⟩ := Sp.two_iff.1 ((hsp (X, Y)).2 (Sp.mem (by simp)))
  obtain ⟨k3, l3, r1, r2⟩ := Sp.two_iff.1 ((hsp (n, 0)).1 (Sp.mem (by simp)))
  obtain ⟨k4, l4, s1, s2⟩ := Sp.two_iff.1 ((hsp (w, e)).1 (Sp.mem (by simp)))
  have d1 : 2 * a = (k1 * l2 - k2 * l1) * (n * e) := by rw [← hdet, p1, p2, q1, q2]; grind
  have d2 : n * e = (k3 * l4 - k4 * l3) * (2 * a) := by
    have e2 : n * e = n * e - w * 0 := by grind
    rw [e2, ← hdet]
    have : n * e - w * 0 = (k3 * u + l3 * X) * (k4 * v + l4 * Y) - (k4 * u + l4 * X) * (k3 * v + l3 * Y) := by rw [← r1, ← r2, ← s1, ← s2]
    rw [this]; grind
  have hne0 : 0 ≤ n * e := Int.mul_nonneg n0 e0
  have hne : n * e = 2 * a := Int.dvd_antisymm hne0 (by omega) ⟨k1 * l2 - k2 * l1, by rw [d1]; grind⟩ ⟨k3 * l4 - k4 * l3, by rw [d2]; grind⟩
  have e1 : 0 < e := by
    rcases Int.lt_or_eq_of_le e0 with h | h
    · exact h
    · rw [← h] at hne; omega
  obtain ⟨P1, Q1, t1, t2, t3⟩ := tau_closed hs hX hY ((hsp (n, 0)).1 (Sp.mem (by simp)))
  obtain ⟨P2, Q2, t4, t5, t6⟩ := tau_closed hs hX hY ((hsp (w, e)).1 (Sp.mem (by simp)))
  obtain ⟨_, A, _, f1⟩ := Sp.two_iff.1 ((hsp _).2 t3)
  obtain ⟨_, l, _, f2⟩ := Sp.two_iff.1 ((hsp _).2 t6)
  simp only at t2 t5 f1 f2
  have hnA : n = 2 * e * A := by
    rw [Int.mul_zero, Int.zero_add] at f1
    rw [f1, Int.mul_zero, Int.add_zero] at t2
    rw [← t2, Int.mul_assoc, Int.mul_comm e A]
  have hw : w = e * (2 * l - s) := by
    rw [Int.mul_zero, Int.zero_add] at f2
    rw [f2] at t5
    have : e * (2 * l - s) = 2 * (l * e) - s * e := by rw [Int.mul_sub, Int.mul_comm e s, Int.mul_left_comm, Int.mul_comm e l]
    omega
  have hA : e * e * A = a := by
    rw [hnA] at hne
    have : 2 * e * A * e = 2 * (e * e * A) := by rw [Int.mul_assoc, Int.mul_assoc, Int.mul_comm A e, Int.mul_assoc]
    omega
  have hA0 : 0 < A := by
    apply Int.not_le.1
    intro hl
    have := Int.mul_nonneg (Int.mul_nonneg e0 e0) (show 0 ≤ -A by omega)
    rw [Int.mul_neg] at this
    omega
  refine ⟨e, A, 2 * l - s, e1, hA0, hA, ?_⟩
  rw [← hnA, ← hw]
  exact hsp
/-- The ideal of an element with the norm of an ideal is this one just if it holds the element. -/
theorem prn_iff {s m u v X Y a b c h e A t : Int} (hX : s * u + (4 * m + s) * v = 2 * X) (hY : u + s * v = 2 * Y) (ha : 0 < a) (he : 0 < e) (hA : e * e * A = a) (hc : b * b - (4 * m + s) = 4 * a * c) (hh : b + s = 2 * h) (hb : 0 ≤ b ∧ b < 2 * a)
    (hsp : SpEq [(2 * e * A, 0), (e * t, e)] [(u, v), (X, Y)]) : (e = 1 ∧ A = a ∧ (-t) % (2 * A) = b) ↔ 2 * a ∣ u + b * v := by
  constructor
  · rintro ⟨rfl, rfl, h3⟩
    obtain ⟨k, l, p1, p2⟩ := Sp.two_iff.1 ((hsp (u, v)).2 (Sp.mem (by simp)))
    have h4 := Int.mul_ediv_add_emod (-t) (2 * A)
    rw [h3] at h4
    refine ⟨k + v * ((-t) / (2 * A)) * (-1), ?_⟩
    have e1 : l = v := by omega
    subst e1
    generalize (-t) / (2 * A) = j at *
    have e2 : t = -(2 * A * j + b) := by omega
    rw [p1, e2]; grind
  · rintro ⟨k0, hk⟩
    have hin : ∀ x ∈ [(u, v), (X, Y)], Sp [(2 * a, 0), (-b, 1)] x := by
      intro x hx
      rcases List.mem_cons.1 hx with rfl | hx
      · exact Sp.two k0 v (by rw [show u = 2 * a * k0 - b * v by omega]; grind) (by grind)
      · obtain rfl := List.mem_singleton.1 hx
        refine Sp.two (k0 * h - c * v) Y ?_ (by grind)
        have h2 : 2 * X = 2 * ((k0 * h - c * v) * (2 * a) + Y * (-b)) := by
          have hu : u = 2 * a * k0 - b * v := by omega
          have e1 : 2 * ((k0 * h - c * v) * (2 * a) + Y * (-b)) = 2 * a * k0 * (2 * h) - (4 * a * c) * v - (2 * Y) * b := by grind
          rw [e1, ← hX, ← hY, ← hc, ← hh, hu]; grind
        omega
    obtain ⟨k, l, p1, p2⟩ := Sp.two_iff.1 (Sp.mono hin ((hsp _).1 (Sp.mem (x := (2 * e * A, 0)) (by simp))))
    obtain ⟨k', l', q1, q2⟩ := Sp.two_iff.1 (Sp.mono hin ((hsp _).1 (Sp.mem (x := (e * t, e)) (by simp))))
    have hl : l = 0 := by omega
    subst hl
    have h1 : a * (e * k) = a * 1 := by
      have : e * A = a * k := by
        have : 2 * (e * A) = 2 * (a * k) := by rw [← Int.mul_assoc, p1]; grind
        omega
      have h2 : e * (e * A) = a := by rw [← Int.mul_assoc]; exact hA
      rw [this] at h2
      rw [Int.mul_one]; rw [Int.mul_left_comm]; exact h2
    have h2 : e * k = 1 := Int.eq_of_mul_eq_mul_left (by omega) h1
    have he1 : e = 1 := by
      have : e ∣ 1 := ⟨k, h2.symm⟩
      have := Int.le_of_dvd (by omega) this
      omega
    subst he1
    have hAa : A = a := by omega
    subst hAa
    refine ⟨rfl, rfl, ?_⟩
    have hl' : l' = 1 := by omega
    subst hl'
    have ht : -t = b + 2 * A * (-k') := by
      rw [Int.one_mul, Int.one_mul] at q1
      have : 2 * A * (-k') = -(k' * (2 * A)) := by rw [Int.mul_neg, Int.mul_comm]
      omega
    rw [ht, Int.add_mul_emod_self_left, Int.emod_eq_of_lt hb.1 hb.2]
/-- A greatest element, by u and then by v. -/
def LexG (p q : Int × Int) : Prop := p.1 < q.1 ∨ (p.1 = q.1 ∧ p.2 < q.2)
def MaxG (P : Int × Int → Prop) (q : Int × Int) : Prop := P q ∧ ∀ p, P p → p = q ∨ LexG p q
theorem maxG_uniq {P : Int × Int → Prop} {p q : Int × Int} (hp : MaxG P p) (hq : MaxG P q) : p = q := by
  rcases hp.2 q hq.1 with h | h
  · exact h.symm
  · rcases hq.2 p hp.1 with k | k
    · exact k
    · unfold LexG at h k; omega
/-- What a search has found. -/
def BestI (P : Int × Int → Prop) (found : Bool) (q : Int × Int) : Prop := (found = false → ∀ p, ¬ P p) ∧ (found = true → MaxG P q)
theorem bestI_new {P P' : Int × Int → Prop} {f : Bool} {p q : Int × Int} (h : BestI P f q) (hP : ∀ z, P' z ↔ P z ∨ z = p) (hc : f = false ∨ LexG q p) : BestI P' true p := by
  refine ⟨(fun e => by cases e), fun _ => ⟨(hP p).2 (.inr rfl), fun z hz => ?_⟩⟩
  rcases (hP z).1 hz with hz | hz
  · rcases hc with hc | hc
    · exact absurd hz (h.1 hc z)
    · cases f with
      | false => exact absurd hz (h.1 rfl z)
      | true =>
        right
        rcases (h.2 rfl).2 z hz with e | e
        · rw [e]; exact hc
        · unfold LexG at *; omega
  · exact .inl hz
theorem bestI_old {P P' : Int × Int → Prop} {p q : Int × Int} (h : BestI P true q) (hP : ∀ z, P' z ↔ P z ∨ z = p) (hc : ¬ LexG q p) : BestI P' true q := by
  refine ⟨(fun e => by cases e), fun _ => ⟨(hP q).2 (.inl (h.2 rfl).1), fun z hz => ?_⟩⟩
  rcases (hP z).1 hz with hz | rfl
  · exact (h.2 rfl).2 z hz
  · unfold LexG at hc ⊢
    by_cases e : z = q
    · exact .inl e
    · right
      have : ¬ (z.1 = q.1 ∧ z.2 = q.2) := fun h => e (Prod.ext h.1 h.2)
      omega
theorem bestI_same {P P' : Int × Int → Prop} {f : Bool} {q : Int × Int} (h : BestI P f q) (hP : ∀ z, P' z ↔ P z) : BestI P' f q := by
  refine ⟨fun e p hp => h.1 e p ((hP p).1 hp), fun e => ⟨(hP q).2 (h.2 e).1, fun p hp => (h.2 e).2 p ((hP p).1 hp)⟩⟩
end

section

def rdP (d n : Int) (b : Nat) : Bool := decide (((b : Int) * b - d) % (4 * n) = 0)
def rdL (d n : Int) (k : Nat) : List Int := ((List.range k).filter (rdP d n)).map fun b : Nat => (b : Int)
theorem rdL_next (d n : Int) (k : Nat) : rdL d n (k + 1) = rdL d n k ++ if rdP d n k = true then [(k : Int)] else [] := by
  unfold rdL
  rw [List.range_succ, List.filter_append, List.map_append]
  congr 1
  cases h : rdP d n k <;> simp [h]
theorem rdL_len (d n : Int) (k : Nat) : (rdL d n k).length ≤ k := by
  unfold rdL
  rw [List.length_map]
  have := List.length_filter_le (rdP d n) (List.range k)
  rwa [List.length_range] at this
theorem four_mod {t m : Int} : (4 * t) % (4 * m) = 0 ↔ m ∣ t := by
  rw [Int.mul_emod_mul_of_pos t m (show (0 : Int) < 4 by omega)]
  constructor
  · intro h; exact Int.dvd_of_emod_eq_zero (by omega)
  · intro h; rw [Int.emod_eq_zero_of_dvd h]; rfl
theorem odd_mod {t m z : Int} (h : z = 2 * t + 1) : ¬ z % (4 * m) = 0 := by
  intro hz
  obtain ⟨k, hk⟩ := Int.dvd_of_emod_eq_zero hz
  rw [Int.mul_assoc] at hk
  generalize m * k = q at *
  omega
theorem rdP_even {d s c : Int} (hs : s = 0 ∨ s = 1) (hd : s * s - 4 * c = d) (m : Int) (k : Nat) : ((rdL d m (2 * (k + 1))).length : Int) = (rdL d m (2 * k)).length + inD (m ∣ qx s c k) := by
  rw [show 2 * (k + 1) = 2 * k + 1 + 1 by omega, rdL_next, rdL_next, List.length_append, List.length_append]
  have e0 : (((2 * k : Nat) : Int)) = 2 * (k : Int) := by omega
  have e1 : (((2 * k + 1 : Nat) : Int)) = 2 * (k : Int) + 1 := by omega
  have kk : ∃ q : Int, (k : Int) * k = q := ⟨_, rfl⟩
  obtain ⟨q, hq⟩ := kk
  have p0 : rdP d m (2 * k) = decide ((4 * q - d) % (4 * m) = 0) := by
    unfold rdP
    rw [e0, show 2 * (k : Int) * (2 * (k : Int)) = 4 * ((k : Int) * k) by grind, hq]
  have p1 : rdP d m (2 * k + 1) = decide ((4 * q + 4 * k + 1 - d) % (4 * m) = 0) := by
    unfold rdP
    rw [e1, show (2 * (k : Int) + 1) * (2 * (k : Int) + 1) = 4 * ((k : Int) * k) + 4 * k + 1 by grind, hq]
  rcases hs with rfl | rfl
  · have q0 : rdP d m (2 * k) = decide (m ∣ qx 0 c k) := by
      rw [p0, show 4 * q - d = 4 * qx 0 c k by unfold qx; rw [hq]; omega]
      exact decide_eq_decide.2 four_mod
    have q1 : rdP d m (2 * k + 1) = false := by
      rw [p1]
      exact decide_eq_false (odd_mod (t := 2 * q + 2 * k + 2 * c) (by omega))
    rw [q0, q1]
    unfold inD
    by_cases h : m ∣ qx 0 c k <;> simp [h]
  · have q0 : rdP d m (2 * k) = false := by
      rw [p0]
      exact decide_eq_false (odd_mod (t := 2 * q + 2 * c - 1) (by omega))
    have q1 : rdP d m (2 * k + 1) = decide (m ∣ qx 1 c k) := by
      rw [p1, show 4 * q + 4 * k + 1 - d = 4 * qx 1 c k by unfold qx; rw [hq]; omega]
      exact decide_eq_decide.2 four_mod
    rw [q0, q1]
    unfold inD
    by_cases h : m ∣ qx 1 c k <;> simp [h]
theorem rdL_ZQ {d s c : Int} (hs : s = 0 ∨ s = 1) (hd : s * s - 4 * c = d) (m : Nat) : ((rdL d m (2 * m)).length : Int) = ZQ s c m := by
  unfold ZQ
  have key : ∀ k, ((rdL d m (2 * k)).length : Int) = SI (fun x => inD ((m : Int) ∣ qx s c x)) k := by
    intro k
    induction k with
    | zero => rfl
    | succ k ih => rw [rdP_even hs hd, ih]; rfl
  exact key m
/-- How many ideals with the norm n have a scale below E. -/
def cnI (d : Int) (n : Nat) : Nat → Nat
  | 0 => 0
  | E + 1 => cnI d n E + if 1 ≤ E ∧ n % (E * E) = 0 then (rdL d ((n / (E * E) : Nat) : Int) (2 * (n / (E * E)))).length else 0
theorem cnI_SI {d s c : Int} (hs : s = 0 ∨ s = 1) (hd : s * s - 4 * c = d) {n : Nat} (hn : 1 ≤ n) : ∀ E, (cnI d n E : Int) = SI (fun t => if t * t ∣ n then ZQ s c (n / (t * t)) else 0) E
  | 0 => rfl
  | E + 1 => by
    have ih := cnI_SI hs hd hn E
    show ((cnI d n E + if 1 ≤ E ∧ n % (E * E) = 0 then (rdL d ((n / (E * E) : Nat) : Int) (2 * (n / (E * E)))).length else 0 : Nat) : Int) = SI _ E + (if E * E ∣ n then ZQ s c (n / (E * E)) else 0)
    rw [Int.natCast_add, ih]
    congr 1
    by_cases h : E * E ∣ n
    · have h1 : 1 ≤ E := by
        rcases Nat.eq_zero_or_pos E with e | e
        · rw [e] at h; have := Nat.eq_zero_of_zero_dvd (by simpa using h); omega
        · exact e
      rw [if_pos ⟨h1, Nat.mod_eq_zero_of_dvd h⟩, if_pos h]
      exact rdL_ZQ hs hd _
    · rw [if_neg h, if_neg (fun ⟨_, h2⟩ => h (Nat.dvd_of_mod_eq_zero h2))]; rfl
theorem cnI_all {d s c : Int} (hs : s = 0 ∨ s = 1) (hd : s * s - 4 * c = d) (F : FunD d) {n E : Nat} (h1 : 1 ≤ n) (h2 : n ≤ 10000) (hE : n < E * E) : (cnI d n E : Int) = XS (fun k => kroN d k) n := by
  rw [← roots_chars hs hd F h1 h2, cnI_SI hs hd h1]
  unfold RS
  have hz : ∀ k, E ≤ k → (if k * k ∣ n then ZQ s c (n / (k * k)) else 0) = 0 := fun k hk => if_neg (fun h => by
    have a := Nat.le_of_dvd h1 h
    have b := Nat.mul_le_mul hk hk
    omega)
  by_cases hle : E ≤ n + 1
  · exact (SI_ext (F := fun t => if t * t ∣ n then ZQ s c (n / (t * t)) else 0) hz (n + 1) hle).symm
  · exact SI_ext (F := fun t => if t * t ∣ n then ZQ s c (n / (t * t)) else 0) (fun k hk => if_neg (ndvd_gt h1 (by have := sq_ge k; omega))) E (by omega)
theorem cnI_bd (d : Int) (n : Nat) : ∀ E, cnI d n E ≤ 2 * n * E
  | 0 => Nat.zero_le _
  | E + 1 => by
    have ih := cnI_bd d n E
    show cnI d n E + (if 1 ≤ E ∧ n % (E * E) = 0 then (rdL d ((n / (E * E) : Nat) : Int) (2 * (n / (E * E)))).length else 0) ≤ _
    have h1 := rdL_len d ((n / (E * E) : Nat) : Int) (2 * (n / (E * E)))
    have h2 : n / (E * E) ≤ n := Nat.div_le_self _ _
    rw [Nat.mul_add]
    split <;> omega
end
end Go.Proofs.YtohgccgbbipjjaaGreat
