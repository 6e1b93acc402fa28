/- Plain facts: primitive points of the reduced forms, and the primitive forms that begin with a number. -/
import Derived.Test.YtkpiiicefmkhcaaE1
import Derived.Test.YtkpiiicefmkhcaaE2
namespace Go.Proofs.Ytkpiiicefmkhcaa

theorem act_disc (f : Fm) (m : M4) : disc (actM f m) = disc f * (m.det * m.det) := by
  have h := sub_idn f.a f.b f.c m.p m.r m.q m.s
  unfold disc actM atF polF M4.det
  simp only
  rw [← h, Int.mul_comm m.r m.q]
/-- Two columns make a form of a form. -/
def Kf (f : Fm) (p : Int × Int) (g : Fm) : Prop := ∃ q t, p.1 * t - q * p.2 = 1 ∧ actM f ⟨p.1, q, p.2, t⟩ = g
theorem Kf.val {f g : Fm} {p : Int × Int} (h : Kf f p g) : Int.gcd p.1 p.2 = 1 ∧ f.a * p.1 * p.1 + f.b * p.1 * p.2 + f.c * p.2 * p.2 = g.a := by
  obtain ⟨q, t, hd, rfl⟩ := h
  exact ⟨gcd_bez (u := t) (v := -q) (by rw [Int.mul_neg]; have : p.2 * q = q * p.2 := Int.mul_comm _ _; omega), rfl⟩
theorem Kf.disc {f g : Fm} {p : Int × Int} (h : Kf f p g) : disc g = disc f := by
  obtain ⟨q, t, hd, rfl⟩ := h
  rw [act_disc]
  have e : (⟨p.1, q, p.2, t⟩ : M4).det = 1 := hd
  rw [e]; simp
theorem fm_ext3 {f g : Fm} (h1 : f.a = g.a) (h2 : f.b = g.b) (h3 : f.c = g.c) : f = g := by
  obtain ⟨a, b, c⟩ := f; obtain ⟨x, y, z⟩ := g; simp only at h1 h2 h3; rw [h1, h2, h3]
theorem fm_of_disc {f g : Fm} (h1 : f.a = g.a) (h2 : f.b = g.b) (h0 : f.a ≠ 0) (hd : Go.Proofs.Ytkpiiicefmkhcaa.disc f = Go.Proofs.Ytkpiiicefmkhcaa.disc g) : f = g := by
  refine fm_ext3 h1 h2 ?_
  unfold Go.Proofs.Ytkpiiicefmkhcaa.disc at hd
  rw [h1, h2] at hd
  have e : 4 * g.a * f.c = 4 * g.a * g.c := by omega
  exact Int.eq_of_mul_eq_mul_left (by omega) e
/-- The form of a point in the residues is there. -/
theorem Kf.ex {f : Fm} {p : Int × Int} {n : Int} (hn : 0 < n) (hg : Int.gcd p.1 p.2 = 1) (hv : f.a * p.1 * p.1 + f.b * p.1 * p.2 + f.c * p.2 * p.2 = n) : ∃ g, Kf f p g ∧ g.a = n ∧ 0 ≤ g.b ∧ g.b < 2 * n := by
  obtain ⟨u, v, huv⟩ := bez p.1 p.2
  rw [hg] at huv
  obtain ⟨k, hk⟩ : ∃ k, k = -((2 * f.a * p.1 * -v + f.b * (p.1 * u + p.2 * -v) + 2 * f.c * p.2 * u) / (2 * n)) := ⟨_, rfl⟩
  have hB := Int.emod_add_mul_ediv (2 * f.a * p.1 * -v + f.b * (p.1 * u + p.2 * -v) + 2 * f.c * p.2 * u) (2 * n)
  have hB0 := Int.emod_nonneg (2 * f.a * p.1 * -v + f.b * (p.1 * u + p.2 * -v) + 2 * f.c * p.2 * u) (show 2 * n ≠ 0 by omega)
  have hB1 := Int.emod_lt_of_pos (2 * f.a * p.1 * -v + f.b * (p.1 * u + p.2 * -v) + 2 * f.c * p.2 * u) (show 0 < 2 * n by omega)
  obtain ⟨x, y⟩ := p
  simp only at *
  have hdet : x * (u + y * k) - (-v + x * k) * y = 1 := by
    have e : x * (u + y * k) - (-v + x * k) * y = u * x + v * y := by grind
    rw [e]; exact huv
  obtain ⟨B, hB'⟩ : ∃ B, 2 * f.a * x * -v + f.b * (x * u + y * -v) + 2 * f.c * y * u = B := ⟨_, rfl⟩
  rw [hB'] at hk hB hB0 hB1
  have hb : (actM f ⟨x, -v + x * k, y, u + y * k⟩).b = (2 * f.a * x * -v + f.b * (x * u + y * -v) + 2 * f.c * y * u) + 2 * n * k := by
    unfold actM polF
    simp only
    rw [← hv]
    grind
  have hmod : (actM f ⟨x, -v + x * k, y, u + y * k⟩).b = B % (2 * n) := by
    rw [hb, hB', hk, Int.mul_neg]
    generalize 2 * n * (B / (2 * n)) = z at *
    omega
  exact ⟨_, ⟨_, _, hdet, rfl⟩, hv, by rw [hmod]; exact hB0, by rw [hmod]; exact hB1⟩
theorem Kf.uniq {f g g' : Fm} {p : Int × Int} {n : Int} (hn : 0 < n) (h : Kf f p g) (h' : Kf f p g') (ha : g.a = n) (hb : 0 ≤ g.b ∧ g.b < 2 * n) (hb' : 0 ≤ g'.b ∧ g'.b < 2 * n) : g = g' := by
  have hv := h.val.2
  have hv' := h'.val.2
  have hd := h.disc.trans h'.disc.symm
  obtain ⟨q, t, d1, e1⟩ := h
  obtain ⟨q', t', d2, e2⟩ := h'
  obtain ⟨x, y⟩ := p
  simp only at *
  have k1 : (t * q' - q * t') * x = q' - q := by
    have e : (t * q' - q * t') * x = q' * (x * t - q * y) - q * (x * t' - q' * y) := by grind
    rw [e, d1, d2]; omega
  have k2 : (t * q' - q * t') * y = t' - t := by
    have e : (t * q' - q * t') * y = t' * (x * t - q * y) - t * (x * t' - q' * y) := by grind
    rw [e, d1, d2]; omega
  have hbb : g'.b = g.b + 2 * n * (t * q' - q * t') := by
    rw [← e2, ← e1, ← ha, ← hv]
    unfold actM polF
    simp only
    generalize t * q' - q * t' = k at *
    have hq : q' = q + k * x := by omega
    have ht : t' = t + k * y := by omega
    rw [hq, ht]
    grind
  have k0 : t * q' - q * t' = 0 := by
    generalize t * q' - q * t' = k at *
    apply Classical.byContradiction
    intro hne
    rcases (show k ≤ -1 ∨ 1 ≤ k by omega) with h | h
    · have := Int.mul_le_mul_of_nonneg_left h (show 0 ≤ 2 * n by omega)
      omega
    · have := Int.mul_le_mul_of_nonneg_left h (show 0 ≤ 2 * n by omega)
      omega
  rw [k0] at hbb
  exact fm_of_disc (by omega) (by omega) (by omega) hd
/-- A reduced form of which a form is made is its reduced form. -/
theorem Kf.red {d : Int} {f g : Fm} {p : Int × Int} (D : Dsc d) (hf : f ∈ clsL d) (hg : Def M0 g) (h : Kf f p g) : f = Go.Proofs.Ytkpiiicefmkhcaa.red g := by
  obtain ⟨⟨a1, _, e3, e4, _⟩, _⟩ := mem_clsL D.lo hf
  have hgd' : Go.Proofs.Ytkpiiicefmkhcaa.disc g = d := h.disc.trans e3
  have hv := h.val.2
  obtain ⟨q, t, hdet, rfl⟩ := h
  obtain ⟨x, y⟩ := p
  simp only at *
  have es := sn D.md
  have d2 := D.hi
  have hfd : Go.Proofs.Ytkpiiicefmkhcaa.disc f = sD d * sD d - 4 * nD d := by rw [es]; exact e3
  have hgd : Go.Proofs.Ytkpiiicefmkhcaa.disc (actM f ⟨x, q, y, t⟩) = sD d * sD d - 4 * nD d := by rw [es]; exact hgd'
  have h2 := hF_two hfd
  have h3 := hF_two hgd
  have hn := hF_norm hfd
  have hom : Hom (sD d) (nD d) (IF (sD d) f) (IF (sD d) (actM f ⟨x, q, y, t⟩)) := by
    unfold IF
    refine Id.subst (x := x) (y := y) (q := q) (t := t) hn hdet (by omega) ?_ ?_ ?_
    · rw [← hv, show 2 * hF (sD d) f - sD d = f.b by omega]; grind
    · have := hg.a0; omega
    · have hb : (actM f ⟨x, q, y, t⟩).b = 2 * f.a * x * q + f.b * (x * t + y * q) + 2 * f.c * y * t := rfl
      rw [hb] at h3
      have hfb : f.b = 2 * hF (sD d) f - sD d := by omega
      rw [hfb] at h3
      have e : 2 * (f.a * (x * q) + hF (sD d) f * (x * t + q * y) + f.c * (y * t) - sD d * (q * y)) = 2 * f.a * x * q + (2 * hF (sD d) f - sD d) * (x * t + y * q) + 2 * f.c * y * t + sD d * (x * t - q * y) := by grind
      rw [hdet] at e
      omega
  exact hom_red (by omega) hfd ((red_disc hg).trans hgd) (by omega) (red_def hg).a0 e4 (red_isRed hg) (hom.trans (red_hom hg hgd))
/-- What is made of a form by a product. -/
theorem Kf.mul {f g h : Fm} {P q R t : Int} {p' : Int × Int} (d1 : P * t - q * R = 1) (h1 : actM f ⟨P, q, R, t⟩ = g) (h2 : Kf g p' h) : Kf f (P * p'.1 + q * p'.2, R * p'.1 + t * p'.2) h := by
  obtain ⟨q', t', d2, rfl⟩ := h2
  subst h1
  refine ⟨P * q' + q * t', R * q' + t * t', ?_, ?_⟩
  · simp only
    have e : (P * p'.1 + q * p'.2) * (R * q' + t * t') - (P * q' + q * t') * (R * p'.1 + t * p'.2) = (P * t - q * R) * (p'.1 * t' - q' * p'.2) := by grind
    rw [e, d1, d2]; rfl
  · rw [act_mul]; rfl
/-- The solutions of T T - d u u = 4. -/
def tuL (d : Int) : List (Int × Int) := [(2, 0), (-2, 0)] ++ ((if d = -4 then [(0, 1), (0, -1)] else []) ++ (if d = -3 then [(1, 1), (1, -1), (-1, 1), (-1, -1)] else []))
def wD (d : Int) : Nat := if d = -3 then 6 else if d = -4 then 4 else 2
theorem tuL_len (d : Int) : (tuL d).length = wD d := by
  unfold tuL wD
  by_cases h3 : d = -3
  · subst h3; rfl
  · by_cases h4 : d = -4
    · subst h4; rfl
    · simp [h3, h4]
theorem tuL_nd (d : Int) : (tuL d).Nodup := by
  unfold tuL
  by_cases h3 : d = -3
  · subst h3; decide
  · by_cases h4 : d = -4
    · subst h4; decide
    · simp [h3, h4]
theorem tuL_mem {d T u : Int} (hd : d ≤ -3) : (T, u) ∈ tuL d ↔ T * T - d * (u * u) = 4 := by
  constructor
  · unfold tuL
    intro h
    by_cases h3 : d = -3
    · subst h3
      simp at h
      rcases h with ⟨rfl, rfl⟩ | ⟨rfl, rfl⟩ | ⟨rfl, rfl⟩ | ⟨rfl, rfl⟩ | ⟨rfl, rfl⟩ | ⟨rfl, rfl⟩ <;> rfl
    · by_cases h4 : d = -4
      · subst h4
        simp at h
        rcases h with ⟨rfl, rfl⟩ | ⟨rfl, rfl⟩ | ⟨rfl, rfl⟩ | ⟨rfl, rfl⟩ <;> rfl
      · simp [h3, h4] at h
        rcases h with ⟨rfl, rfl⟩ | ⟨rfl, rfl⟩ <;> simp
  · intro h
    have hT := sq_nn T
    have hu := sq_nn u
    have k1 : 3 * (u * u) ≤ -d * (u * u) := Int.mul_le_mul_of_nonneg_right (by omega) hu
    rw [Int.neg_mul] at k1
    have hub : -1 ≤ u ∧ u ≤ 1 := abs_of_sq (by omega) (by omega)
    have k3 : T * T ≤ 2 * 2 := by
      have : 0 ≤ -d * (u * u) := Int.mul_nonneg (by omega) hu
      rw [Int.neg_mul] at this
      omega
    have hTb : -2 ≤ T ∧ T ≤ 2 := abs_of_sq (by omega) k3
    have hc : (u = 0 ∧ (T = 2 ∨ T = -2)) ∨ (d = -4 ∧ T = 0 ∧ (u = 1 ∨ u = -1)) ∨ (d = -3 ∧ (T = 1 ∨ T = -1) ∧ (u = 1 ∨ u = -1)) := by
      obtain ⟨T1, T2⟩ := hTb
      obtain ⟨u1, u2⟩ := hub
      have cu : u = -1 ∨ u = 0 ∨ u = 1 := by omega
      have cT : T = -2 ∨ T = -1 ∨ T = 0 ∨ T = 1 ∨ T = 2 := by omega
      rcases cu with rfl | rfl | rfl <;> rcases cT with rfl | rfl | rfl | rfl | rfl <;> simp at h <;> omega
    unfold tuL
    rcases hc with ⟨rfl, rfl | rfl⟩ | ⟨rfl, rfl, rfl | rfl⟩ | ⟨rfl, rfl | rfl, rfl | rfl⟩ <;> simp
/-- The point to which an automorph takes a point. -/
def ptT (f : Fm) (p : Int × Int) (τ : Int × Int) : Int × Int := ((τ.1 * p.1 - τ.2 * (f.b * p.1 + 2 * f.c * p.2)) / 2, (τ.2 * (2 * f.a * p.1 + f.b * p.2) + τ.1 * p.2) / 2)
theorem par_tu {d b T u x : Int} (hb : b * b - 4 * x = d) (h : T * T - d * (u * u) = 4) : ∃ m, T - b * u = 2 * m := by
  have e : (T - b * u) * (T + b * u) = 4 * (1 - x * (u * u)) := by
    have : (T - b * u) * (T + b * u) = T * T - (b * b) * (u * u) := by grind
    rw [this, show b * b = d + 4 * x by omega]
    have : (d + 4 * x) * (u * u) = d * (u * u) + 4 * (x * (u * u)) := by grind
    rw [this]; omega
  generalize b * u = z at *
  rcases Int.emod_two_eq (T - z) with h0 | h1
  · exact ⟨(T - z) / 2, by omega⟩
  · exfalso
    obtain ⟨m, hm⟩ : ∃ m, T - z = 2 * m + 1 := ⟨(T - z) / 2, by omega⟩
    have hp : T + z = 2 * (m + z) + 1 := by omega
    rw [hm, hp] at e
    have : (2 * m + 1) * (2 * (m + z) + 1) = 2 * (2 * (m * (m + z)) + m + (m + z)) + 1 := by grind
    omega
/-- The automorphs of a form, in their numbers. -/
theorem aut_pt {d : Int} {f : Fm} (D : Dsc d) (hd : disc f = d) {τ : Int × Int} (hτ : τ ∈ tuL d) : ∃ m, m * (m + f.b * τ.2) - -(f.c * τ.2) * (f.a * τ.2) = 1 ∧ actM f ⟨m, -(f.c * τ.2), f.a * τ.2, m + f.b * τ.2⟩ = f ∧ 2 * m = τ.1 - f.b * τ.2 ∧ ∀ p, ptT f p τ = (m * p.1 + -(f.c * τ.2) * p.2, f.a * τ.2 * p.1 + (m + f.b * τ.2) * p.2) := by
  obtain ⟨T, u⟩ := τ
  have h := (tuL_mem D.hi).1 hτ
  have hdd : f.b * f.b - 4 * (f.a * f.c) = d := by rw [← hd]; unfold disc; rw [Int.mul_assoc]
  obtain ⟨m, hm⟩ := par_tu hdd h
  simp only
  have hT : T = 2 * m + f.b * u := by omega
  have hdet : m * (m + f.b * u) - -(f.c * u) * (f.a * u) = 1 := by
    rw [hT, ← hdd] at h
    have e : (2 * m + f.b * u) * (2 * m + f.b * u) - (f.b * f.b - 4 * (f.a * f.c)) * (u * u) = 4 * (m * (m + f.b * u) - -(f.c * u) * (f.a * u)) := by grind
    omega
  refine ⟨m, hdet, ?_, by omega, ?_⟩
  · have e1 : f.a * m * m + f.b * m * (f.a * u) + f.c * (f.a * u) * (f.a * u) = f.a * (m * (m + f.b * u) - -(f.c * u) * (f.a * u)) := by grind
    have e2 : 2 * f.a * m * -(f.c * u) + f.b * (m * (m + f.b * u) + f.a * u * -(f.c * u)) + 2 * f.c * (f.a * u) * (m + f.b * u) = f.b * (m * (m + f.b * u) - -(f.c * u) * (f.a * u)) := by grind
    have e3 : f.a * -(f.c * u) * -(f.c * u) + f.b * -(f.c * u) * (m + f.b * u) + f.c * (m + f.b * u) * (m + f.b * u) = f.c * (m * (m + f.b * u) - -(f.c * u) * (f.a * u)) := by grind
    rw [hdet, Int.mul_one] at e1 e2 e3
    exact fm_ext3 e1 e2 e3
  · intro p
    unfold ptT
    simp only
    rw [hT]
    have e1 : (2 * m + f.b * u) * p.1 - u * (f.b * p.1 + 2 * f.c * p.2) = 2 * (m * p.1 + -(f.c * u) * p.2) := by grind
    have e2 : u * (2 * f.a * p.1 + f.b * p.2) + (2 * m + f.b * u) * p.2 = 2 * (f.a * u * p.1 + (m + f.b * u) * p.2) := by grind
    rw [e1, e2, Int.mul_ediv_cancel_left _ (by omega), Int.mul_ediv_cancel_left _ (by omega)]
/-- All automorphs of a primitive form. -/
theorem aut_all {d : Int} {f : Fm} (D : Dsc d) (hd : disc f = d) (ha : f.a ≠ 0) (hg : Int.gcd f.a (Int.gcd f.b f.c) = 1) {p q s t : Int} (hdet : p * t - q * s = 1) (h : actM f ⟨p, q, s, t⟩ = f) :
    ∃ T u, (T, u) ∈ tuL d ∧ 2 * p = T - f.b * u ∧ q = -(f.c * u) ∧ s = f.a * u ∧ t = p + f.b * u := by
  have e1 : f.a * p * p + f.b * p * s + f.c * s * s = f.a := congrArg Fm.a h
  have e2 : 2 * f.a * p * q + f.b * (p * t + s * q) + 2 * f.c * s * t = f.b := congrArg Fm.b h
  have hps : s * q = q * s := Int.mul_comm _ _
  have k1 : f.b * s = f.a * (t - p) := by
    have e : 2 * t * (f.a * p * p + f.b * p * s + f.c * s * s) - s * (2 * f.a * p * q + f.b * (p * t + s * q) + 2 * f.c * s * t) = (2 * f.a * p + f.b * s) * (p * t - q * s) := by grind
    rw [e1, e2, hdet] at e
    have : 2 * t * f.a = 2 * (f.a * t) := by grind
    have h3 : s * f.b = f.b * s := Int.mul_comm _ _
    have h4 : f.a * (t - p) = f.a * t - f.a * p := Int.mul_sub _ _ _
    have h5 : 2 * f.a * p = 2 * (f.a * p) := Int.mul_assoc _ _ _
    omega
  have k2 : f.c * s = -(f.a * q) := by
    have e : p * (2 * f.a * p * q + f.b * (p * t + s * q) + 2 * f.c * s * t) - 2 * q * (f.a * p * p + f.b * p * s + f.c * s * s) = (f.b * p + 2 * (f.c * s)) * (p * t - q * s) := by grind
    rw [e1, e2, hdet] at e
    have h3 : p * f.b = f.b * p := Int.mul_comm _ _
    have h4 : 2 * q * f.a = 2 * (f.a * q) := by grind
    omega
  obtain ⟨x, y, hxy⟩ := bez f.b f.c
  obtain ⟨z, v, hzv⟩ := bez f.a (Int.gcd f.b f.c)
  rw [hg, ← hxy] at hzv
  obtain ⟨u, hu⟩ : ∃ u, s = f.a * u := ⟨z * s + v * x * (t - p) - v * y * q, by
    have e : s = s * (z * f.a + v * (x * f.b + y * f.c)) := by rw [hzv]; simp
    rw [e]
    have : s * (z * f.a + v * (x * f.b + y * f.c)) = z * s * f.a + v * x * (f.b * s) + v * y * (f.c * s) := by grind
    rw [this, k1, k2]; grind⟩
  have k3 : t = p + f.b * u := by
    rw [hu] at k1
    have : f.a * (f.b * u) = f.a * (t - p) := by rw [← k1]; grind
    have := Int.eq_of_mul_eq_mul_left ha this
    omega
  have k4 : q = -(f.c * u) := by
    rw [hu] at k2
    have : f.a * (f.c * u) = f.a * -q := by rw [Int.mul_neg, ← k2]; grind
    have := Int.eq_of_mul_eq_mul_left ha this
    omega
  refine ⟨2 * p + f.b * u, u, (tuL_mem D.hi).2 ?_, by omega, k4, hu, k3⟩
  have hdd : f.b * f.b - 4 * (f.a * f.c) = d := by rw [← hd]; unfold disc; rw [Int.mul_assoc]
  rw [k3, k4, hu] at hdet
  rw [← hdd]
  have e : (2 * p + f.b * u) * (2 * p + f.b * u) - (f.b * f.b - 4 * (f.a * f.c)) * (u * u) = 4 * (p * (p + f.b * u) - -(f.c * u) * (f.a * u)) := by grind
  rw [e, hdet]; rfl
end Go.Proofs.Ytkpiiicefmkhcaa
