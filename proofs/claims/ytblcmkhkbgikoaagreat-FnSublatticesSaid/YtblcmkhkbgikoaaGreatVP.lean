/- Plain facts: the automorphs of a definite form, in their order. -/
import Derived.Test.YtblcmkhkbgikoaaGreatRY
namespace Go.Proofs.YtblcmkhkbgikoaaGreat

def M4.inv (m : M4) : M4 := ⟨m.det * m.s, -m.det * m.q, -m.det * m.r, m.det * m.p⟩
theorem M4.ext4 {m n : M4} (h1 : m.p = n.p) (h2 : m.q = n.q) (h3 : m.r = n.r) (h4 : m.s = n.s) : m = n := by
  cases m; cases n; simp only at h1 h2 h3 h4; rw [h1, h2, h3, h4]
theorem M4.inv1 {m : M4} (h : m.det = 1) : m.inv = ⟨m.s, -m.q, -m.r, m.p⟩ := by
  unfold M4.inv; rw [h]; simp
theorem mul_inv4 {m : M4} (h : m.det = 1) : m.mul m.inv = M4.one := by
  rw [M4.inv1 h]; unfold M4.det at h; unfold M4.mul M4.one
  refine M4.ext4 ?_ ?_ ?_ ?_ <;> simp only <;> grind
theorem inv_mul4 {m : M4} (h : m.det = 1) : m.inv.mul m = M4.one := by
  rw [M4.inv1 h]; unfold M4.det at h; unfold M4.mul M4.one
  refine M4.ext4 ?_ ?_ ?_ ?_ <;> simp only <;> grind
theorem det_inv4 {m : M4} (h : m.det = 1) : m.inv.det = 1 := by
  rw [M4.inv1 h]; unfold M4.det at h ⊢; simp only; grind
theorem mul_assoc4 (a b c : M4) : (a.mul b).mul c = a.mul (b.mul c) := by
  unfold M4.mul
  refine M4.ext4 ?_ ?_ ?_ ?_ <;> simp only <;> grind
/-- The form k times f. -/
def kF (k : Int) (f : Fm) : Fm := ⟨k * f.a, k * f.b, k * f.c⟩
theorem disc_kF (k : Int) (f : Fm) : disc (kF k f) = k * k * disc f := by unfold disc kF; simp only; grind
theorem act_kF (k : Int) (f : Fm) (m : M4) : actM (kF k f) m = kF k (actM f m) := by
  unfold actM kF atF polF; simp only [Fm.mk.injEq]; refine ⟨?_, ?_, ?_⟩ <;> grind
/-- The automorph of a solution. -/
def autM (f : Fm) (T u : Int) : M4 := ⟨(T - f.b * u) / 2, -f.c * u, f.a * u, (T + f.b * u) / 2⟩
def conj (r t : M4) : M4 := (r.mul t).mul r.inv
def M4.neg (m : M4) : M4 := ⟨-m.p, -m.q, -m.r, -m.s⟩
theorem conj_one {r : M4} (h : r.det = 1) : conj r M4.one = M4.one := by
  unfold conj
  have : r.mul M4.one = r := by unfold M4.mul M4.one; refine M4.ext4 ?_ ?_ ?_ ?_ <;> simp
  rw [this, mul_inv4 h]
theorem conj_neg {r : M4} (h : r.det = 1) (t : M4) : conj r t.neg = (conj r t).neg := by
  unfold conj
  rw [M4.inv1 h]
  unfold M4.mul M4.neg
  refine M4.ext4 ?_ ?_ ?_ ?_ <;> simp only <;> grind
theorem aut_one (f : Fm) : autM f 2 0 = M4.one := by unfold autM M4.one; simp
theorem aut_none (f : Fm) : autM f (-2) 0 = M4.one.neg := by unfold autM M4.one M4.neg; simp
/-- The form that goes by r over into g. -/
def bak (g : Fm) (r : M4) : Fm := actM g ⟨r.s, -r.q, -r.r, r.p⟩
theorem bak_of {f g : Fm} {r : M4} (h : r.det = 1) (hg : actM f r = g) : f = bak g r := by
  unfold bak; rw [← M4.inv1 h, ← hg, act_mul, mul_inv4 h, act_one]
theorem bak_sq (r : M4) : bak ⟨1, 0, 1⟩ r = ⟨r.s * r.s + r.r * r.r, -(2 * (r.s * r.q + r.r * r.p)), r.q * r.q + r.p * r.p⟩ := by
  unfold bak actM atF polF; simp only [Fm.mk.injEq]; refine ⟨?_, ?_, ?_⟩ <;> grind
theorem bak_hex (r : M4) : bak ⟨1, 1, 1⟩ r = ⟨r.s * r.s - r.s * r.r + r.r * r.r, r.s * r.p + r.r * r.q - 2 * (r.s * r.q + r.r * r.p), r.q * r.q - r.q * r.p + r.p * r.p⟩ := by
  unfold bak actM atF polF; simp only [Fm.mk.injEq]; refine ⟨?_, ?_, ?_⟩ <;> grind
theorem half_of {x y : Int} (h : x = 2 * y) : x / 2 = y := by omega
theorem conj_S {r : M4} (h : r.det = 1) : conj r ⟨0, -1, 1, 0⟩ = autM (bak ⟨1, 0, 1⟩ r) 0 1 := by
  rw [bak_sq]
  unfold conj
  rw [M4.inv1 h]
  unfold M4.mul autM
  refine M4.ext4 ?_ ?_ ?_ ?_ <;> simp only
  · symm; apply half_of; grind
  · grind
  · grind
  · symm; apply half_of; grind
theorem conj_S' {r : M4} (h : r.det = 1) : conj r (M4.neg ⟨0, -1, 1, 0⟩) = autM (bak ⟨1, 0, 1⟩ r) 0 (-1) := by
  rw [conj_neg h, conj_S h, bak_sq]
  unfold autM M4.neg
  refine M4.ext4 ?_ ?_ ?_ ?_ <;> simp only
  · symm; apply half_of; omega
  · omega
  · omega
  · symm; apply half_of; omega
theorem hex_par {r : M4} (h : r.det = 1) : ∃ z, r.s * r.p + r.r * r.q = 2 * z + 1 := ⟨r.r * r.q, by unfold M4.det at h; have := Int.mul_comm r.p r.s; have := Int.mul_comm r.q r.r; omega⟩
theorem conj_T {r : M4} (h : r.det = 1) : conj r ⟨0, -1, 1, 1⟩ = autM (bak ⟨1, 1, 1⟩ r) 1 1 := by
  rw [bak_hex]
  unfold conj
  rw [M4.inv1 h]
  unfold M4.mul autM
  unfold M4.det at h
  refine M4.ext4 ?_ ?_ ?_ ?_ <;> simp only
  · symm; apply half_of; grind
  · grind
  · grind
  · symm; apply half_of; grind
theorem conj_U {r : M4} (h : r.det = 1) : conj r ⟨1, 1, -1, 0⟩ = autM (bak ⟨1, 1, 1⟩ r) 1 (-1) := by
  rw [bak_hex]
  unfold conj
  rw [M4.inv1 h]
  unfold M4.mul autM
  unfold M4.det at h
  refine M4.ext4 ?_ ?_ ?_ ?_ <;> simp only
  · symm; apply half_of; grind
  · grind
  · grind
  · symm; apply half_of; grind
theorem conj_T' {r : M4} (h : r.det = 1) : conj r (M4.neg ⟨0, -1, 1, 1⟩) = autM (bak ⟨1, 1, 1⟩ r) (-1) (-1) := by
  rw [bak_hex]
  unfold conj
  rw [M4.inv1 h]
  unfold M4.mul autM M4.neg
  unfold M4.det at h
  refine M4.ext4 ?_ ?_ ?_ ?_ <;> simp only
  · symm; apply half_of; grind
  · grind
  · grind
  · symm; apply half_of; grind
theorem conj_U' {r : M4} (h : r.det = 1) : conj r (M4.neg ⟨1, 1, -1, 0⟩) = autM (bak ⟨1, 1, 1⟩ r) (-1) 1 := by
  rw [bak_hex]
  unfold conj
  rw [M4.inv1 h]
  unfold M4.mul autM M4.neg
  unfold M4.det at h
  refine M4.ext4 ?_ ?_ ?_ ?_ <;> simp only
  · symm; apply half_of; grind
  · grind
  · grind
  · symm; apply half_of; grind
/-- The turns of a reduced form. -/
def trnL (g : Fm) : List M4 :=
  (if g.a = g.c ∧ g.b = 0 then [M4.one, ⟨0, -1, 1, 0⟩] else if g.a = g.c ∧ g.b = g.a then [M4.one, ⟨0, -1, 1, 1⟩, ⟨1, 1, -1, 0⟩] else [M4.one])
/-- The pairs that the reference tries, and those among them that solve. -/
def tuA : List (Int × Int) := (List.range 15).map fun i : Nat => (((i / 3 : Nat) : Int) - 2, ((i % 3 : Nat) : Int) - 1)
def tuB (d : Int) (p : Int × Int) : Bool := decide (p.1 * p.1 - d * p.2 * p.2 = 4)
theorem tuA_eq : tuA = [(-2, -1), (-2, 0), (-2, 1), (-1, -1), (-1, 0), (-1, 1), (0, -1), (0, 0), (0, 1), (1, -1), (1, 0), (1, 1), (2, -1), (2, 0), (2, 1)] := by decide
theorem tuB_far {d : Int} (h : d ≤ -5) : tuA.filter (tuB d) = [(-2, 0), (2, 0)] := by
  have k : ∀ p : Int × Int, (p.2 = 1 ∨ p.2 = -1) → tuB d p = false := by
    intro p hp
    unfold tuB
    have : 0 ≤ p.1 * p.1 := sq_nn p.1
    rcases hp with e | e <;> rw [e] <;> simp <;> omega
  have k0 : ∀ p : Int × Int, p.2 = 0 → (p.1 * p.1 ≠ 4) → tuB d p = false := by
    intro p hp h4; unfold tuB; rw [hp]; simp; exact h4
  have k1 : ∀ p : Int × Int, p.2 = 0 → (p.1 * p.1 = 4) → tuB d p = true := by
    intro p hp h4; unfold tuB; rw [hp]; simp; exact h4
  rw [tuA_eq]
  rw [List.filter_cons_of_neg (by rw [k _ (.inr rfl)]; decide), List.filter_cons_of_pos (k1 _ rfl rfl), List.filter_cons_of_neg (by rw [k _ (.inl rfl)]; decide), List.filter_cons_of_neg (by rw [k _ (.inr rfl)]; decide),
    List.filter_cons_of_neg (by rw [k0 _ rfl (by decide)]; decide), List.filter_cons_of_neg (by rw [k _ (.inl rfl)]; decide), List.filter_cons_of_neg (by rw [k _ (.inr rfl)]; decide), List.filter_cons_of_neg (by rw [k0 _ rfl (by decide)]; decide),
    List.filter_cons_of_neg (by rw [k _ (.inl rfl)]; decide), List.filter_cons_of_neg (by rw [k _ (.inr rfl)]; decide), List.filter_cons_of_neg (by rw [k0 _ rfl (by decide)]; decide), List.filter_cons_of_neg (by rw [k _ (.inl rfl)]; decide),
    List.filter_cons_of_neg (by rw [k _ (.inr rfl)]; decide), List.filter_cons_of_pos (k1 _ rfl rfl), List.filter_cons_of_neg (by rw [k _ (.inl rfl)]; decide)]
  rfl
/-- What the reference gives, before it is set in order. -/
def autS (f : Fm) : List M4 := (tuA.filter (tuB (disc f))).map fun p => autM f p.1 p.2
/-- What the program gives, before it is set in order. -/
def autI (g : Fm) (r : M4) : List M4 := (trnL g ++ (trnL g).map M4.neg).map (conj r)
theorem disc_mod4 (f : Fm) : disc f % 4 = 0 ∨ disc f % 4 = 1 := by
  obtain ⟨a, b, c⟩ := f
  unfold disc
  simp only
  have e : 4 * a * c = 4 * (a * c) := Int.mul_assoc _ _ _
  rcases Int.emod_two_eq b with h | h
  · obtain ⟨m, hm⟩ : ∃ m, b = 2 * m := ⟨b / 2, by omega⟩
    have : b * b = 4 * (m * m) := by rw [hm]; grind
    omega
  · obtain ⟨m, hm⟩ : ∃ m, b = 2 * m + 1 := ⟨b / 2, by omega⟩
    have : b * b = 4 * (m * m + m) + 1 := by rw [hm]; grind
    omega
theorem aut_perm {g' : Fm} {k : Int} {r : M4} (h : r.det = 1) (hk : 0 < k) (hd : disc g' ≤ -3) (h4 : disc g' = -4 → g' = ⟨1, 0, 1⟩) (h3 : disc g' = -3 → g' = ⟨1, 1, 1⟩)
    (n4 : g'.a = g'.c → g'.b = 0 → disc g' = -4) (n3 : g'.a = g'.c → g'.b = g'.a → disc g' = -3) (hdd : disc (bak g' r) = disc g') : (autI (kF k g') r).Perm (autS (bak g' r)) := by
  unfold autI autS
  rw [hdd]
  by_cases e4 : disc g' = -4
  · have := h4 e4
    subst this
    have ht : trnL (kF k ⟨1, 0, 1⟩) = [M4.one, ⟨0, -1, 1, 0⟩] := by unfold trnL kF; simp
    rw [ht, show disc ⟨1, 0, 1⟩ = -4 from rfl, show tuA.filter (tuB (-4)) = [(-2, 0), (0, -1), (0, 1), (2, 0)] by decide]
    simp only [List.map_cons, List.map_nil, List.cons_append, List.nil_append]
    rw [conj_neg h M4.one, conj_one h, conj_S h, conj_S' h, ← aut_none (bak ⟨1, 0, 1⟩ r), ← aut_one (bak ⟨1, 0, 1⟩ r)]
    generalize autM (bak ⟨1, 0, 1⟩ r) 2 0 = x1
    generalize autM (bak ⟨1, 0, 1⟩ r) (-2) 0 = x2
    generalize autM (bak ⟨1, 0, 1⟩ r) 0 1 = x3
    generalize autM (bak ⟨1, 0, 1⟩ r) 0 (-1) = x4
    exact ((List.Perm.swap x3 x1 _).trans ((List.Perm.cons _ (List.Perm.swap x2 x1 _)))).trans (by
      refine (List.Perm.swap x2 x3 _).trans (List.Perm.cons _ ?_)
      refine (List.Perm.cons _ (List.Perm.swap x4 x1 _)).trans ?_
      exact List.Perm.swap x4 x3 _)
  · by_cases e3 : disc g' = -3
    · have := h3 e3
      subst this
      have ht : trnL (kF k ⟨1, 1, 1⟩) = [M4.one, ⟨0, -1, 1, 1⟩, ⟨1, 1, -1, 0⟩] := by unfold trnL kF; simp; omega
      rw [ht, show disc ⟨1, 1, 1⟩ = -3 from rfl, show tuA.filter (tuB (-3)) = [(-2, 0), (-1, -1), (-1, 1), (1, -1), (1, 1), (2, 0)] by decide]
      simp only [List.map_cons, List.map_nil, List.cons_append, List.nil_append]
      rw [conj_neg h M4.one, conj_one h, conj_T h, conj_T' h, conj_U h, conj_U' h, ← aut_none (bak ⟨1, 1, 1⟩ r), ← aut_one (bak ⟨1, 1, 1⟩ r)]
      generalize autM (bak ⟨1, 1, 1⟩ r) 2 0 = x1
      generalize autM (bak ⟨1, 1, 1⟩ r) (-2) 0 = x2
      generalize autM (bak ⟨1, 1, 1⟩ r) 1 1 = x3
      generalize autM (bak ⟨1, 1, 1⟩ r) 1 (-1) = x4
      generalize autM (bak ⟨1, 1, 1⟩ r) (-1) (-1) = x5
      generalize autM (bak ⟨1, 1, 1⟩ r) (-1) 1 = x6
      have e1 : [x1, x3, x4, x2, x5, x6] = [x1, x3, x4] ++ [x2, x5, x6] := rfl
      have e2 : [x2, x5, x6, x4, x3, x1] = [x2, x5, x6] ++ [x1, x3, x4].reverse := rfl
      rw [e1, e2]
      exact List.perm_append_comm.trans (List.Perm.append_left _ (List.reverse_perm _).symm)
    · have ht : trnL (kF k g') = [M4.one] := by
        have hk0 : k ≠ 0 := by omega
        unfold trnL kF
        simp only
        have n1 : ¬ (k * g'.a = k * g'.c ∧ k * g'.b = 0) := by
          rintro ⟨u, v⟩
          refine e4 (n4 (Int.eq_of_mul_eq_mul_left hk0 u) ?_)
          rcases Int.mul_eq_zero.1 v with h | h
          · exact absurd h hk0
          · exact h
        have n2 : ¬ (k * g'.a = k * g'.c ∧ k * g'.b = k * g'.a) := by
          rintro ⟨u, v⟩
          exact e3 (n3 (Int.eq_of_mul_eq_mul_left hk0 u) (Int.eq_of_mul_eq_mul_left hk0 v))
        rw [if_neg n1, if_neg n2]
      have hm := disc_mod4 g'
      rw [ht, tuB_far (by omega)]
      simp only [List.map_cons, List.map_nil, List.cons_append, List.nil_append]
      rw [conj_neg h M4.one, conj_one h, ← aut_none (bak g' r), ← aut_one (bak g' r)]
      exact List.Perm.swap _ _ _
theorem red_small {a b c d : Int} (ha : 0 < a) (hr : isRed a b c = true) (hd : b * b - 4 * (a * c) = d) (h : -4 ≤ d) (h0 : d ≤ -3) : a = 1 ∧ c = 1 ∧ (b = 0 ∨ b = 1) := by
  obtain ⟨⟨b1, b2⟩, hc⟩ := (isRed_iff _ _ _).1 hr
  have hac : a ≤ c := by omega
  have k1 : b * b ≤ a * a := by
    have := mul_bd (a := b) (x := b) (A := a) (X := a) (by omega) (by omega) (by omega) (by omega)
    omega
  have k2 : a * a ≤ a * c := Int.mul_le_mul_of_nonneg_left hac (by omega)
  have ha1 : a = 1 := by
    apply Classical.byContradiction
    intro hn
    have : 2 * 2 ≤ a * a := Int.mul_le_mul (by omega) (by omega) (by omega) (by omega)
    omega
  subst ha1
  have hb : b = 0 ∨ b = 1 := by omega
  rcases hb with rfl | rfl <;> omega
/-- The data of the automorphs of a form: its content, the primitive form, its automorphs in the reference's row. -/
structure AutD (f : Fm) (k : Int) (f' : Fm) : Prop where
  eq : f = kF k f'
  k0 : 0 < k
  kg : k = Int.gcd f.a (Int.gcd f.b f.c)
  d3 : disc f' ≤ -3
  perm : (autI (red f) (redM f M4.one)).Perm (autS f')
  act : ∀ m ∈ autS f', actM f m = f
theorem act_aut {f' : Fm} {k T u : Int} (h : T * T - disc f' * u * u = 4) : actM (kF k f') (autM f' T u) = kF k f' := by
  rw [act_kF]
  congr 1
  obtain ⟨a, b, c⟩ := f'
  unfold disc at h
  simp only at h
  have hp : ∃ m, T - b * u = 2 * m := by
    have e : (T - b * u) * (T + b * u) = 4 * (1 - (a * c) * (u * u)) := by grind
    generalize b * u = z at *
    rcases Int.emod_two_eq (T - z) with h0 | h1
    · exact ⟨(T - z) / 2, by omega⟩
    · exfalso
      obtain ⟨m, hm⟩ : ∃ m, T - z = 2 * m + 1 := ⟨(T - z) / 2, by omega⟩
      have hp : T + z = 2 * (m + z) + 1 := by omega
      rw [hm, hp] at e
      have : (2 * m + 1) * (2 * (m + z) + 1) = 2 * (2 * (m * (m + z)) + m + (m + z)) + 1 := by grind
      omega
  obtain ⟨m, hm⟩ := hp
  have e1 : (T - b * u) / 2 = m := by omega
  have e2 : (T + b * u) / 2 = m + b * u := by omega
  have hT : T = 2 * m + b * u := by omega
  have hdet : m * (m + b * u) + (c * u) * (a * u) = 1 := by
    rw [hT] at h
    have e : (2 * m + b * u) * (2 * m + b * u) - (b * b - 4 * a * c) * u * u = 4 * (m * (m + b * u) + (c * u) * (a * u)) := by grind
    omega
  unfold actM autM atF polF
  simp only [Fm.mk.injEq]
  rw [e1, e2]
  refine ⟨?_, ?_, ?_⟩ <;> grind
theorem kF_red {k : Int} (hk : 0 < k) {g : Fm} (h : isRed (kF k g).a (kF k g).b (kF k g).c = true) : isRed g.a g.b g.c = true := by
  rw [isRed_iff] at h ⊢
  unfold kF at h
  simp only at h
  obtain ⟨⟨h1, h2⟩, h3⟩ := h
  refine ⟨⟨?_, ?_⟩, ?_⟩
  · exact Int.lt_of_mul_lt_mul_left (a := k) (by rw [Int.mul_neg]; exact h1) (by omega)
  · exact Int.le_of_mul_le_mul_left h2 hk
  · rcases h3 with h3 | ⟨h3, h4⟩
    · exact .inl (Int.lt_of_mul_lt_mul_left h3 (by omega))
    · refine .inr ⟨Int.eq_of_mul_eq_mul_left (by omega) h3, ?_⟩
      exact Int.le_of_mul_le_mul_left (a := k) (by omega) hk
theorem autD_of {f : Fm} (h : Def 1000000 f) : AutD f (Int.gcd f.a (Int.gcd f.b f.c)) ⟨f.a / (Int.gcd f.a (Int.gcd f.b f.c) : Nat), f.b / (Int.gcd f.a (Int.gcd f.b f.c) : Nat), f.c / (Int.gcd f.a (Int.gcd f.b f.c) : Nat)⟩ := by
  obtain ⟨k, hk⟩ : ∃ k : Int, k = (Int.gcd f.a (Int.gcd f.b f.c) : Nat) := ⟨_, rfl⟩
  rw [← hk]
  have ha0 := h.a0
  have da : k ∣ f.a := hk ▸ Int.gcd_dvd_left ..
  have dbc : k ∣ (Int.gcd f.b f.c : Int) := hk ▸ Int.gcd_dvd_right ..
  have db : k ∣ f.b := Int.dvd_trans dbc (Int.gcd_dvd_left ..)
  have dc : k ∣ f.c := Int.dvd_trans dbc (Int.gcd_dvd_right ..)
  have hk0 : 0 < k := by
    have : 0 ≤ k := by omega
    rcases Int.lt_or_eq_of_le this with h0 | h0
    · exact h0
    · rw [← h0] at da; have := Int.zero_dvd.1 da; omega
  have heq : f = kF k ⟨f.a / k, f.b / k, f.c / k⟩ := by
    unfold kF; simp only
    rw [Int.mul_ediv_cancel' da, Int.mul_ediv_cancel' db, Int.mul_ediv_cancel' dc]
  generalize hf' : (⟨f.a / k, f.b / k, f.c / k⟩ : Fm) = f' at *
  have h0 : Def M0 f := def_mono h (by decide)
  obtain ⟨hm, hdet⟩ := redM_act h0
  have hr := red_isRed h
  have hrd := red_disc h
  have hra := (red_def h).a0
  generalize hgE : red f = g at *
  generalize hrE : redM f M4.one = r at *
  obtain ⟨g', hg'⟩ : ∃ g', g' = actM f' r := ⟨_, rfl⟩
  have hg : g = kF k g' := by rw [← hm, hg', heq, act_kF]
  have hb : f' = bak g' r := bak_of hdet hg'.symm
  have hdd : disc f' = disc g' := by
    have e1 : k * k * disc f' = disc f := by rw [← disc_kF, ← heq]
    have e2 : k * k * disc g' = disc g := by rw [← disc_kF, ← hg]
    have : k * k * disc f' = k * k * disc g' := by rw [e1, e2, hrd]
    exact Int.eq_of_mul_eq_mul_left (by have := Int.mul_pos hk0 hk0; omega) this
  have hdn : disc f' < 0 := by
    have e1 : k * k * disc f' = disc f := by rw [← disc_kF, ← heq]
    have hd := h.d
    have : disc f < 0 := by unfold disc; rw [Int.mul_assoc]; omega
    have hkk := Int.mul_pos hk0 hk0
    rw [← e1] at this
    exact Int.not_le.1 (fun hle => by have := Int.mul_nonneg (Int.le_of_lt hkk) hle; omega)
  have hm4 := disc_mod4 f'
  have hd3 : disc f' ≤ -3 := by omega
  have hgr : isRed g'.a g'.b g'.c = true := kF_red hk0 (hg ▸ hr)
  have hga : 0 < g'.a := by
    have e : g.a = k * g'.a := by rw [hg]; rfl
    rw [e] at hra
    exact Int.not_le.1 (fun hle => by have := Int.mul_nonpos_of_nonneg_of_nonpos (Int.le_of_lt hk0) hle; omega)
  have one : ∀ x : Int, x ∣ g'.a → x ∣ g'.b → x ∣ g'.c → 0 < x → x = 1 := by
    intro x x1 x2 x3 x0
    obtain ⟨u, hu⟩ := x1; obtain ⟨v, hv⟩ := x2; obtain ⟨z, hz⟩ := x3
    have ya : x ∣ f'.a := ⟨u * r.s * r.s - v * r.s * r.r + z * r.r * r.r, by rw [hb]; unfold bak actM atF; simp only; rw [hu, hv, hz]; grind⟩
    have yb : x ∣ f'.b := ⟨-(2 * u * r.s * r.q) + v * (r.s * r.p + r.r * r.q) - 2 * z * r.r * r.p, by rw [hb]; unfold bak actM polF; simp only; rw [hu, hv, hz]; grind⟩
    have yc : x ∣ f'.c := ⟨u * r.q * r.q - v * r.q * r.p + z * r.p * r.p, by rw [hb]; unfold bak actM atF; simp only; rw [hu, hv, hz]; grind⟩
    have fa : f.a = k * f'.a := by rw [heq]; rfl
    have fb : f.b = k * f'.b := by rw [heq]; rfl
    have fc : f.c = k * f'.c := by rw [heq]; rfl
    have xk : k * x ∣ k := by
      have t1 : k * x ∣ f.a := by rw [fa]; exact Int.mul_dvd_mul_left k ya
      have t2 : k * x ∣ f.b := by rw [fb]; exact Int.mul_dvd_mul_left k yb
      have t3 : k * x ∣ f.c := by rw [fc]; exact Int.mul_dvd_mul_left k yc
      have := Int.dvd_coe_gcd t1 (Int.dvd_coe_gcd t2 t3)
      rw [← hk] at this; exact this
    have := Int.le_of_dvd hk0 xk
    have h2 : k * x ≤ k * 1 := by omega
    have := Int.le_of_mul_le_mul_left h2 hk0
    omega
  refine ⟨heq, hk0, hk, hd3, ?_, ?_⟩
  · rw [hgE, hrE, hg, hb]
    have hgd : g'.b * g'.b - 4 * (g'.a * g'.c) = disc g' := by unfold disc; rw [Int.mul_assoc]
    refine aut_perm hdet hk0 (by omega) ?_ ?_ ?_ ?_ (by rw [← hb]; exact hdd)
    · intro e
      obtain ⟨q1, q2, q3⟩ := red_small hga hgr hgd (by omega) (by omega)
      obtain ⟨x, y, z⟩ := g'
      simp only at *
      subst q1; subst q2
      rcases q3 with rfl | rfl
      · rfl
      · unfold disc at e; simp at e
    · intro e
      obtain ⟨q1, q2, q3⟩ := red_small hga hgr hgd (by omega) (by omega)
      obtain ⟨x, y, z⟩ := g'
      simp only at *
      subst q1; subst q2
      rcases q3 with rfl | rfl
      · unfold disc at e; simp at e
      · rfl
    · intro q1 q2
      have := one g'.a ⟨1, by simp⟩ (by rw [q2]; exact ⟨0, by simp⟩) (by rw [← q1]; exact ⟨1, by simp⟩) hga
      rw [← hgd, ← q1, q2, this]; rfl
    · intro q1 q2
      have := one g'.a ⟨1, by simp⟩ (by rw [q2]; exact ⟨1, by simp⟩) (by rw [← q1]; exact ⟨1, by simp⟩) hga
      rw [← hgd, ← q1, q2, this]; rfl
  · intro m hm'
    unfold autS at hm'
    rw [List.mem_map] at hm'
    obtain ⟨p, hp, rfl⟩ := hm'
    have := (List.mem_filter.1 hp).2
    unfold tuB at this
    rw [decide_eq_true_iff] at this
    rw [heq]
    exact act_aut this
/-- The order of matrices. -/
def lesM (m n : M4) : Bool := if m.p ≠ n.p then decide (m.p < n.p) else if m.q ≠ n.q then decide (m.q < n.q) else if m.r ≠ n.r then decide (m.r < n.r) else decide (m.s < n.s)
theorem lesM_iff (m n : M4) : lesM m n = true ↔ m.p < n.p ∨ (m.p = n.p ∧ (m.q < n.q ∨ (m.q = n.q ∧ (m.r < n.r ∨ (m.r = n.r ∧ m.s < n.s))))) := by
  unfold lesM
  by_cases h1 : m.p = n.p
  · rw [if_neg (by simp [h1])]
    by_cases h2 : m.q = n.q
    · rw [if_neg (by simp [h2])]
      by_cases h3 : m.r = n.r
      · rw [if_neg (by simp [h3]), decide_eq_true_iff]; omega
      · rw [if_pos h3, decide_eq_true_iff]; omega
    · rw [if_pos h2, decide_eq_true_iff]; omega
  · rw [if_pos h1, decide_eq_true_iff]; omega
/-- Where a matrix is put. -/
def posM (m : M4) (L : List M4) : Nat → Nat
  | 0 => 0
  | k + 1 => if lesM m (L.getD k M4.one) then posM m L k else k + 1
def insM (L : List M4) (m : M4) : List M4 := L.take (posM m L L.length) ++ m :: L.drop (posM m L L.length)
def srtM (L : List M4) : List M4 := L.foldl insM []
theorem posM_le (m : M4) (L : List M4) : ∀ k, posM m L k ≤ k
  | 0 => by simp [posM]
  | k + 1 => by
    unfold posM
    split
    · have := posM_le m L k; omega
    · omega
theorem posM_hi (m : M4) (L : List M4) : ∀ k i, posM m L k ≤ i → i < k → lesM m (L.getD i M4.one) = true
  | 0, i, _, h => by omega
  | k + 1, i, h1, h2 => by
    unfold posM at h1
    split at h1
    next hl =>
      by_cases e : i = k
      · rw [e]; exact hl
      · exact posM_hi m L k i h1 (by omega)
    next => omega
theorem posM_lo (m : M4) (L : List M4) : ∀ k, 0 < posM m L k → lesM m (L.getD (posM m L k - 1) M4.one) = false
  | 0, h => by simp [posM] at h
  | k + 1, h => by
    unfold posM at h ⊢
    split
    next hl => rw [if_pos hl] at h; exact posM_lo m L k h
    next hl => simpa using hl
/-- A row of matrices in order. -/
def OrdM (L : List M4) : Prop := L.Pairwise fun m n => lesM n m = false
theorem les_trans {a b c : M4} (h1 : lesM b a = false) (h2 : lesM c b = false) : lesM c a = false := by
  rw [← Bool.not_eq_true, lesM_iff] at *
  omega
theorem insM_ord {L : List M4} {m : M4} (h : OrdM L) : OrdM (insM L m) := by
  unfold insM OrdM
  have hp := posM_le m L L.length
  have hhi := posM_hi m L L.length
  have hlo := posM_lo m L L.length
  generalize posM m L L.length = k at *
  unfold OrdM at h
  have hsp : (L.take k ++ L.drop k).Pairwise fun m n => lesM n m = false := by rw [List.take_append_drop]; exact h
  obtain ⟨h1, h2, h3⟩ := List.pairwise_append.1 hsp
  have hlow : ∀ a ∈ L.take k, lesM m a = false := by
    intro a ha
    obtain ⟨i, hi, rfl⟩ := List.mem_iff_getElem.1 ha
    rw [List.length_take] at hi
    have hl := hlo (by omega)
    rw [List.getD_eq_getElem?_getD, List.getElem?_eq_getElem (by omega : k - 1 < L.length)] at hl
    simp only [Option.getD_some] at hl
    rw [List.getElem_take]
    by_cases e : i = k - 1
    · subst e; exact hl
    · exact les_trans (List.pairwise_iff_getElem.1 h i (k - 1) (by omega) (by omega) (by omega)) hl
  have hhig : ∀ a ∈ L.drop k, lesM a m = false := by
    intro a ha
    obtain ⟨i, hi, rfl⟩ := List.mem_iff_getElem.1 ha
    rw [List.length_drop] at hi
    have hl := hhi (k + i) (by omega) (by omega)
    rw [List.getD_eq_getElem?_getD, List.getElem?_eq_getElem (by omega : k + i < L.length)] at hl
    simp only [Option.getD_some] at hl
    rw [List.getElem_drop]
    rw [lesM_iff] at hl
    rw [← Bool.not_eq_true, lesM_iff]
    omega
  rw [List.pairwise_append]
  refine ⟨h1, List.pairwise_cons.2 ⟨hhig, h2⟩, ?_⟩
  intro a ha b hb
  rcases List.mem_cons.1 hb with rfl | hb
  · exact hlow a ha
  · exact h3 a ha b hb
theorem insM_perm (L : List M4) (m : M4) : (insM L m).Perm (m :: L) := by
  unfold insM
  generalize posM m L L.length = k
  have h := (List.perm_middle (a := m) (l₁ := L.take k) (l₂ := L.drop k))
  rw [List.take_append_drop] at h
  exact h
theorem srt_fold : ∀ (L K : List M4), OrdM K → OrdM (L.foldl insM K) ∧ (L.foldl insM K).Perm (L ++ K)
  | [], K, h => ⟨h, List.Perm.refl _⟩
  | m :: L, K, h => by
    obtain ⟨h1, h2⟩ := srt_fold L (insM K m) (insM_ord h)
    refine ⟨h1, h2.trans ?_⟩
    refine (List.Perm.append_left L (insM_perm K m)).trans ?_
    exact List.perm_middle
theorem les_anti {a b : M4} (h1 : lesM b a = false) (h2 : lesM a b = false) : a = b := by
  rw [← Bool.not_eq_true, lesM_iff] at *
  obtain ⟨p, q, r, s⟩ := a; obtain ⟨p', q', r', s'⟩ := b
  simp only at *
  have e1 : p = p' := by omega
  have e2 : q = q' := by omega
  have e3 : r = r' := by omega
  have e4 : s = s' := by omega
  rw [e1, e2, e3, e4]
theorem les_irr (a : M4) : lesM a a = false := by rw [← Bool.not_eq_true, lesM_iff]; omega
theorem ord_uniq : ∀ (L K : List M4), OrdM L → OrdM K → L.Perm K → L = K
  | [], K, _, _, h => (h.symm.eq_nil).symm
  | a :: L, [], _, _, h => by have := h.length_eq; simp at this
  | a :: L, b :: K, h1, h2, h => by
    have ha : a = b := by
      have m1 : a ∈ b :: K := h.mem_iff.1 (List.mem_cons_self ..)
      have m2 : b ∈ a :: L := h.mem_iff.2 (List.mem_cons_self ..)
      rcases List.mem_cons.1 m1 with e | m1
      · exact e
      · rcases List.mem_cons.1 m2 with e | m2
        · exact e.symm
        · exact les_anti ((List.pairwise_cons.1 h1).1 b m2) ((List.pairwise_cons.1 h2).1 a m1)
    subst ha
    rw [ord_uniq L K (List.pairwise_cons.1 h1).2 (List.pairwise_cons.1 h2).2 (h.cons_inv)]
theorem srt_eq {L K : List M4} (h : L.Perm K) : srtM L = srtM K := by
  obtain ⟨o1, p1⟩ := srt_fold L [] List.Pairwise.nil
  obtain ⟨o2, p2⟩ := srt_fold K [] List.Pairwise.nil
  rw [List.append_nil] at p1 p2
  exact ord_uniq _ _ o1 o2 ((p1.trans h).trans p2.symm)
theorem srt_mem {L : List M4} {m : M4} : m ∈ srtM L ↔ m ∈ L := by
  obtain ⟨_, p1⟩ := srt_fold L [] List.Pairwise.nil
  rw [List.append_nil] at p1
  exact p1.mem_iff
theorem srt_len (L : List M4) : (srtM L).length = L.length := by
  obtain ⟨_, p1⟩ := srt_fold L [] List.Pairwise.nil
  rw [List.append_nil] at p1
  exact p1.length_eq
theorem autS_len {f' : Fm} (h : disc f' ≤ -3) : (autS f').length = if disc f' = -3 then 6 else if disc f' = -4 then 4 else 2 := by
  unfold autS
  rw [List.length_map]
  by_cases h3 : disc f' = -3
  · rw [if_pos h3, h3]; decide
  · rw [if_neg h3]
    by_cases h4 : disc f' = -4
    · rw [if_pos h4, h4]; decide
    · rw [if_neg h4, tuB_far (by omega)]; rfl
end Go.Proofs.YtblcmkhkbgikoaaGreat
