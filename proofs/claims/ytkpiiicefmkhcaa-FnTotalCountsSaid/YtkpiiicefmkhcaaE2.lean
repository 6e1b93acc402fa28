/- Parts EG EH EI EJ EK laid together by tp.py. -/
import Derived.Test.YtkpiiicefmkhcaaMM
import Derived.Test.YtkpiiicefmkhcaaUB
import Derived.Test.YtkpiiicefmkhcaaSX
import Derived.Test.YtkpiiicefmkhcaaRY
import Derived.Test.YtkpiiicefmkhcaaPA
import Derived.Test.YtkpiiicefmkhcaaE1
import Derived.Test.YtkpiiicefmkhcaaPB
import Derived.Test.YtkpiiicefmkhcaaOP
namespace Go.Proofs.Ytkpiiicefmkhcaa
section

theorem sub_idn (a b c x y q t : Int) : (2 * a * x * q + b * (x * t + q * y) + 2 * c * y * t) * (2 * a * x * q + b * (x * t + q * y) + 2 * c * y * t) - 4 * (a * x * x + b * x * y + c * y * y) * (a * q * q + b * q * t + c * t * t) = (b * b - 4 * a * c) * ((x * t - q * y) * (x * t - q * y)) := by grind
theorem id_eq {p h k : Int} (hd : p ∣ h - k) : Id p h = Id p k := by
  obtain ⟨m, hm⟩ := hd
  funext z
  refine propext ⟨fun ⟨u, hu⟩ => ⟨u - m * z.v, ?_⟩, fun ⟨u, hu⟩ => ⟨u + m * z.v, ?_⟩⟩
  · have e : h = k + p * m := by omega
    rw [e] at hu
    rw [Int.mul_sub, ← hu]; grind
  · have e : h = k + p * m := by omega
    rw [e, Int.mul_add, ← hu]; grind
theorem pr_euclid {p : Nat} (hp : Ab.PrN p) {a b : Int} (h : (p : Int) ∣ a * b) : (p : Int) ∣ a ∨ (p : Int) ∣ b := by
  have h1 : p ∣ a.natAbs * b.natAbs := by
    rw [← Int.natAbs_mul]
    exact Int.ofNat_dvd_left.1 h
  rcases hp.2 _ (Nat.gcd_dvd_left p a.natAbs) with hg | hg
  · right
    exact Int.ofNat_dvd_left.2 (Nat.Coprime.dvd_of_dvd_mul_left hg h1)
  · left
    exact Int.ofNat_dvd_left.2 (hg ▸ Nat.gcd_dvd_right p a.natAbs)
theorem two_roots {p : Nat} (hp : Ab.PrN p) {s n h k : Int} (hh : (p : Int) ∣ h * h - s * h + n) (hk : (p : Int) ∣ k * k - s * k + n) : (p : Int) ∣ h - k ∨ (p : Int) ∣ h - (s - k) := by
  refine pr_euclid hp ?_
  have e : (h - k) * (h - (s - k)) = (h * h - s * h + n) - (k * k - s * k + n) := by grind
  rw [e]
  exact Int.dvd_sub hh hk
theorem rep_id {d p : Int} {f : Fm} (D : Dsc d) (hf : f ∈ clsL d) (hp : p ≠ 0) {x y : Int} (hg : Int.gcd x y = 1) (hv : f.a * x * x + f.b * x * y + f.c * y * y = p) :
    ∃ h', Hom (sD d) (nD d) (IF (sD d) f) (Id p h') ∧ p ∣ h' * h' - sD d * h' + nD d := by
  obtain ⟨⟨a1, _, e3, _⟩, _⟩ := mem_clsL D.lo hf
  have es := sn D.md
  have hfd : disc f = sD d * sD d - 4 * nD d := by rw [es]; exact e3
  have h2 := hF_two hfd
  have hn := hF_norm hfd
  obtain ⟨u, v, huv⟩ := bez x y
  rw [hg] at huv
  have hdet : x * u - (-v) * y = 1 := by rw [Int.neg_mul]; have : x * u = u * x := Int.mul_comm _ _; simp at huv; omega
  refine ⟨f.a * (x * -v) + hF (sD d) f * (x * u + -v * y) + f.c * (y * u) - sD d * (-v * y), ?_, ?_⟩
  · unfold IF
    exact Id.subst (x := x) (y := y) (q := -v) (t := u) hn hdet (by omega) (by rw [← hv, show 2 * hF (sD d) f - sD d = f.b by omega]; grind) hp rfl
  · generalize -v = q at *
    generalize hF (sD d) f = h at *
    generalize sD d = s at *
    generalize nD d = n at *
    have hb : f.b = 2 * h - s := by omega
    have hid := sub_idn f.a f.b f.c x y q u
    have hdd : f.b * f.b - 4 * f.a * f.c = s * s - 4 * n := hfd
    rw [hv, hdet, hdd] at hid
    obtain ⟨H, hH⟩ : ∃ H, f.a * (x * q) + h * (x * u + q * y) + f.c * (y * u) - s * (q * y) = H := ⟨_, rfl⟩
    rw [hH]
    have hB : 2 * f.a * x * q + f.b * (x * u + q * y) + 2 * f.c * y * u = 2 * H - s := by
      have hxu : x * u = 1 + q * y := by omega
      rw [← hH, hb, hxu]; grind
    rw [hB] at hid
    refine ⟨f.a * q * q + f.b * q * u + f.c * u * u, ?_⟩
    generalize f.a * q * q + f.b * q * u + f.c * u * u = C at *
    have e1 : (2 * H - s) * (2 * H - s) = 4 * (H * H - s * H) + s * s := by grind
    have e2 : 4 * p * C = 4 * (p * C) := Int.mul_assoc _ _ _
    rw [e1, e2] at hid
    omega
/-- A class that represents a prime. -/
theorem rep_class {d : Int} {p : Nat} {f g : Fm} (D : Dsc d) (hp : Ab.PrN p) (hf : f ∈ clsL d) {x y : Int} (hxy : Int.gcd x y = 1) (hv : f.a * x * x + f.b * x * y + f.c * y * y = (p : Int)) (cg : CF d g (red g)) (ga : g.a = (p : Int)) :
    f = red g ∨ f = red (oppF g) := by
  have hp2 := hp.1
  obtain ⟨⟨a1, _, e3, e4, _⟩, _⟩ := mem_clsL D.lo hf
  obtain ⟨h', hom, hdiv⟩ := rep_id D hf (p := (p : Int)) (by omega) hxy hv
  have es := sn D.md
  have d2 := D.hi
  have hfd : disc f = sD d * sD d - 4 * nD d := by rw [es]; exact e3
  have hgd : disc g = sD d * sD d - 4 * nD d := by rw [es]; exact cg.dc
  have hgn := hF_norm hgd
  have hk : (p : Int) ∣ hF (sD d) g * hF (sD d) g - sD d * hF (sD d) g + nD d := by rw [hgn, ga]; exact Int.dvd_mul_right _ _
  rcases two_roots hp hdiv hk with h | h
  · left
    have e : Id (p : Int) h' = IF (sD d) g := by unfold IF; rw [ga]; exact id_eq h
    rw [e] at hom
    exact hom_red (by omega) hfd ((red_disc cg.df).trans hgd) (by omega) (red_def cg.df).a0 e4 (red_isRed cg.df) (hom.trans (red_hom cg.df hgd))
  · right
    have od := opp_def cg.df
    have hod : disc (oppF g) = sD d * sD d - 4 * nD d := by rw [opp_disc]; exact hgd
    have e : Id (p : Int) h' = IF (sD d) (oppF g) := by
      unfold IF
      rw [opp_hF hgd, show (oppF g).a = g.a from rfl, ga]
      exact id_eq h
    rw [e] at hom
    exact hom_red (by omega) hfd ((red_disc od).trans hod) (by omega) (red_def od).a0 e4 (red_isRed od) (hom.trans (red_hom od hod))
end

section

theorem gcd_bez {x y u v : Int} (h : x * u + y * v = 1) : Int.gcd x y = 1 := by
  have h1 : (Int.gcd x y : Int) ∣ 1 := by
    rw [← h]
    exact Int.dvd_add (Int.dvd_trans (Int.gcd_dvd_left ..) (Int.dvd_mul_right _ _)) (Int.dvd_trans (Int.gcd_dvd_right ..) (Int.dvd_mul_right _ _))
  have := Int.natCast_dvd_natCast.1 (show ((Int.gcd x y : Nat) : Int) ∣ ((1 : Nat) : Int) from h1)
  exact Nat.dvd_one.1 this
theorem act_back (a b c p q r s : Int) : (a * p * p + b * p * r + c * r * r) * s * s + (2 * a * p * q + b * (p * s + q * r) + 2 * c * r * s) * s * -r + (a * q * q + b * q * s + c * s * s) * -r * -r = a * ((p * s - q * r) * (p * s - q * r)) := by grind
/-- The reduced form of g represents the first number of g. -/
theorem rep_self {d : Int} {g : Fm} (cg : CF d g (red g)) : ∃ x y : Int, Int.gcd x y = 1 ∧ (red g).a * x * x + (red g).b * x * y + (red g).c * y * y = g.a := by
  obtain ⟨h1, h2⟩ := redM_act cg.df
  generalize redM g M4.one = m at *
  unfold M4.det at h2
  refine ⟨m.s, -m.r, gcd_bez (u := m.p) (v := m.q) (by rw [Int.neg_mul]; have e1 : m.s * m.p = m.p * m.s := Int.mul_comm _ _; have e2 : m.r * m.q = m.q * m.r := Int.mul_comm _ _; omega), ?_⟩
  have hb := act_back g.a g.b g.c m.p m.q m.r m.s
  rw [h2] at hb
  rw [← h1]
  unfold actM atF polF
  simp only
  grind
theorem pfF_find : ∀ (k : Nat) (d p b x : Int), b ≤ x → x ≤ p → p < b + k → (x * x - d) % (4 * p) = 0 → ∃ f, pfF k d p b = some f
  | 0, _, _, _, _, h1, h2, h3, _ => by omega
  | k + 1, d, p, b, x, h1, h2, h3, h4 => by
    unfold pfF
    rw [if_pos (by omega)]
    split
    · exact ⟨_, rfl⟩
    · rename_i hne
      have hxb : b ≠ x := fun e => hne (e ▸ h4)
      exact pfF_find k d p (b + 1) x (by omega) h2 (by omega) h4
end

section

theorem back_a (a b c x y q u : Int) : (a * x * x + b * x * y + c * y * y) * (u * u) - (2 * a * x * q + b * (x * u + q * y) + 2 * c * y * u) * (u * y) + (a * q * q + b * q * u + c * u * u) * (y * y) = a * ((x * u - q * y) * (x * u - q * y)) := by grind
theorem back_b (a b c x y q u : Int) : (2 * a * x * q + b * (x * u + q * y) + 2 * c * y * u) * (x * u + q * y) - 2 * (a * x * x + b * x * y + c * y * y) * (u * q) - 2 * (a * q * q + b * q * u + c * u * u) * (x * y) = b * ((x * u - q * y) * (x * u - q * y)) := by grind
theorem back_c (a b c x y q u : Int) : (a * x * x + b * x * y + c * y * y) * (q * q) - (2 * a * x * q + b * (x * u + q * y) + 2 * c * y * u) * (q * x) + (a * q * q + b * q * u + c * u * u) * (x * x) = c * ((x * u - q * y) * (x * u - q * y)) := by grind
/-- A primitive point gives a middle coefficient, and what divides all three divides the form. -/
theorem rep_mid {d p : Int} {f : Fm} (hd : disc f = d) {x y : Int} (hg : Int.gcd x y = 1) (hv : f.a * x * x + f.b * x * y + f.c * y * y = p) :
    ∃ B C : Int, B * B - 4 * (p * C) = d ∧ ∀ m : Int, m ∣ p → m ∣ B → m ∣ C → m ∣ f.a ∧ m ∣ f.b ∧ m ∣ f.c := by
  obtain ⟨u, v, huv⟩ := bez x y
  rw [hg] at huv
  obtain ⟨q, hq⟩ : ∃ q, q = -v := ⟨_, rfl⟩
  have hdet : x * u - q * y = 1 := by rw [hq, Int.neg_mul]; have : x * u = u * x := Int.mul_comm _ _; simp at huv; omega
  have h1 := sub_idn f.a f.b f.c x y q u
  have h2 := back_a f.a f.b f.c x y q u
  have h3 := back_b f.a f.b f.c x y q u
  have h4 := back_c f.a f.b f.c x y q u
  rw [hdet, hv] at h1 h2 h3 h4
  refine ⟨2 * f.a * x * q + f.b * (x * u + q * y) + 2 * f.c * y * u, f.a * q * q + f.b * q * u + f.c * u * u, ?_, ?_⟩
  · have hdd : f.b * f.b - 4 * f.a * f.c = d := hd
    rw [hdd] at h1
    have e2 : ∀ C : Int, 4 * p * C = 4 * (p * C) := fun C => Int.mul_assoc _ _ _
    rw [e2] at h1
    omega
  · generalize 2 * f.a * x * q + f.b * (x * u + q * y) + 2 * f.c * y * u = B at *
    generalize f.a * q * q + f.b * q * u + f.c * u * u = C at *
    intro m m1 m2 m3
    simp only [Int.mul_one] at h2 h3 h4
    refine ⟨?_, ?_, ?_⟩
    · rw [← h2]
      exact Int.dvd_add (Int.dvd_sub (Int.dvd_mul_of_dvd_left m1) (Int.dvd_mul_of_dvd_left m2)) (Int.dvd_mul_of_dvd_left m3)
    · rw [← h3]
      exact Int.dvd_sub (Int.dvd_sub (Int.dvd_mul_of_dvd_left m2) (Int.dvd_mul_of_dvd_left (Int.dvd_mul_of_dvd_right m1))) (Int.dvd_mul_of_dvd_left (Int.dvd_mul_of_dvd_right m3))
    · rw [← h4]
      exact Int.dvd_add (Int.dvd_sub (Int.dvd_mul_of_dvd_left m1) (Int.dvd_mul_of_dvd_left m2)) (Int.dvd_mul_of_dvd_left m3)
/-- A middle coefficient in 0..p. -/
theorem mid_ex {d p B C : Int} (hp : 0 < p) (h : B * B - 4 * (p * C) = d) : ∃ b : Int, 0 ≤ b ∧ b ≤ p ∧ (b * b - d) % (4 * p) = 0 := by
  have h1 := Int.emod_nonneg B (show 2 * p ≠ 0 by omega)
  have h2 := Int.emod_lt_of_pos B (show 0 < 2 * p by omega)
  have h3 := Int.emod_add_mul_ediv B (2 * p)
  generalize B % (2 * p) = r at *
  generalize B / (2 * p) = k at *
  have key : ∀ b : Int, b = r ∨ b = 2 * p - r → (b * b - d) % (4 * p) = 0 := by
    intro b hb
    apply Int.emod_eq_zero_of_dvd
    rcases hb with rfl | rfl
    · exact ⟨C - k * b - k * k * p, by rw [← h, ← h3]; grind⟩
    · exact ⟨C + p - r - k * r - k * k * p, by rw [← h, ← h3]; grind⟩
  by_cases hle : r ≤ p
  · exact ⟨r, h1, hle, key r (.inl rfl)⟩
  · exact ⟨2 * p - r, by omega, by omega, key _ (.inr rfl)⟩
theorem pf_of_rep {d p : Int} {f : Fm} (hd : disc f = d) (hp : 0 < p) {x y : Int} (hg : Int.gcd x y = 1) (hv : f.a * x * x + f.b * x * y + f.c * y * y = p) : ∃ g, pf d p = some g := by
  obtain ⟨B, C, h1, _⟩ := rep_mid hd hg hv
  obtain ⟨b, b1, b2, b3⟩ := mid_ex hp h1
  exact pfF_find _ d p 0 b b1 b2 (by omega) b3
end

section

theorem mid_two {p : Nat} (hp : Ab.PrN p) {B b C c d : Int} (h1 : B * B - 4 * ((p : Int) * C) = d) (h2 : b * b - 4 * ((p : Int) * c) = d) (hb : (p : Int) ∣ b) (hc : (p : Int) ∣ c) : (p : Int) ∣ B ∧ (p : Int) ∣ C := by
  have hp2 := hp.1
  have e : B * B = b * b + p * (4 * (C - c)) := by grind
  have hB : (p : Int) ∣ B := by
    have h3 : (p : Int) ∣ B * B := by rw [e]; exact Int.dvd_add (Int.dvd_mul_of_dvd_left hb) (Int.dvd_mul_right _ _)
    rcases pr_euclid hp h3 with h | h <;> exact h
  refine ⟨hB, ?_⟩
  obtain ⟨β, rfl⟩ := hB
  obtain ⟨γ, rfl⟩ := hb
  have e2 : (p : Int) * (β * β - γ * γ) = 4 * (C - c) := by
    have h5 : (p : Int) * ((p : Int) * (β * β - γ * γ)) = (p : Int) * (4 * (C - c)) := by grind
    exact Int.eq_of_mul_eq_mul_left (by omega) h5
  have hCc : (p : Int) ∣ C - c := by
    by_cases h2p : p = 2
    · subst h2p
      rcases Int.emod_two_eq β with hβ | hβ <;> rcases Int.emod_two_eq γ with hγ | hγ
      · obtain ⟨i, hi⟩ : ∃ i, β = 2 * i := ⟨β / 2, by omega⟩
        obtain ⟨j, hj⟩ : ∃ j, γ = 2 * j := ⟨γ / 2, by omega⟩
        refine ⟨i * i - j * j, ?_⟩
        rw [hi, hj] at e2
        have : (2 * i) * (2 * i) - (2 * j) * (2 * j) = 4 * (i * i - j * j) := by grind
        rw [this] at e2
        omega
      · obtain ⟨i, hi⟩ : ∃ i, β = 2 * i := ⟨β / 2, by omega⟩
        obtain ⟨j, hj⟩ : ∃ j, γ = 2 * j + 1 := ⟨γ / 2, by omega⟩
        exfalso
        rw [hi, hj] at e2
        have : (2 * i) * (2 * i) - (2 * j + 1) * (2 * j + 1) = 4 * (i * i - j * j - j) - 1 := by grind
        rw [this] at e2
        omega
      · obtain ⟨i, hi⟩ : ∃ i, β = 2 * i + 1 := ⟨β / 2, by omega⟩
        obtain ⟨j, hj⟩ : ∃ j, γ = 2 * j := ⟨γ / 2, by omega⟩
        exfalso
        rw [hi, hj] at e2
        have : (2 * i + 1) * (2 * i + 1) - (2 * j) * (2 * j) = 4 * (i * i + i - j * j) + 1 := by grind
        rw [this] at e2
        omega
      · obtain ⟨i, hi⟩ : ∃ i, β = 2 * i + 1 := ⟨β / 2, by omega⟩
        obtain ⟨j, hj⟩ : ∃ j, γ = 2 * j + 1 := ⟨γ / 2, by omega⟩
        refine ⟨i * i + i - j * j - j, ?_⟩
        rw [hi, hj] at e2
        have : (2 * i + 1) * (2 * i + 1) - (2 * j + 1) * (2 * j + 1) = 4 * (i * i + i - j * j - j) := by grind
        rw [this] at e2
        omega
    · have h3 : (p : Int) ∣ (2 * 2 : Int) * (C - c) := by rw [show (2 * 2 : Int) = 4 from rfl, ← e2]; exact Int.dvd_mul_right _ _
      rcases pr_euclid hp h3 with h | h
      · exfalso
        have h4 : (p : Int) ∣ 2 := by rcases pr_euclid hp h with h | h <;> exact h
        have := Int.le_of_dvd (by omega) h4
        omega
      · exact h
  have := Int.dvd_add hCc hc
  rwa [show C - c + c = C by omega] at this
/-- The form of a prime that a class represents is primitive. -/
theorem pf_prm {d : Int} {p : Nat} {f g : Fm} (D : Dsc d) (hp : Ab.PrN p) (hf : f ∈ clsL d) {x y : Int} (hxy : Int.gcd x y = 1) (hv : f.a * x * x + f.b * x * y + f.c * y * y = (p : Int)) (hg : pf d p = some g) : primB g = true := by
  have hp2 := hp.1
  obtain ⟨⟨_, _, e3, _⟩, hprm⟩ := mem_clsL D.lo hf
  obtain ⟨B, C, h1, h2⟩ := rep_mid (d := d) e3 hxy hv
  obtain ⟨b, _, hm, rfl⟩ := pfF_some _ _ _ _ _ hg (Int.le_refl _)
  have e := Int.emod_add_mul_ediv (b * b - d) (4 * (p : Int))
  rw [hm, Int.zero_add] at e
  generalize (b * b - d) / (4 * (p : Int)) = c at *
  have hbc : b * b - 4 * ((p : Int) * c) = d := by rw [← Int.mul_assoc]; omega
  unfold primB
  apply decide_eq_true
  simp only
  rcases hp.2 _ (Nat.gcd_dvd_left p (Int.gcd b c)) with h | h
  · exact h
  · exfalso
    have h3 : p ∣ Int.gcd b c := h ▸ Nat.gcd_dvd_right p (Int.gcd b c)
    have h4 : (p : Int) ∣ b := Int.dvd_trans (Int.natCast_dvd_natCast.2 h3) (Int.gcd_dvd_left ..)
    have h5 : (p : Int) ∣ c := Int.dvd_trans (Int.natCast_dvd_natCast.2 h3) (Int.gcd_dvd_right ..)
    obtain ⟨h6, h7⟩ := mid_two hp h1 hbc h4 h5
    obtain ⟨k1, k2, k3⟩ := h2 p (Int.dvd_refl _) h6 h7
    have k4 : (p : Int) ∣ (Int.gcd f.b f.c : Int) := Int.dvd_coe_gcd k2 k3
    have k5 : (p : Int) ∣ (Int.gcd f.a (Int.gcd f.b f.c) : Int) := Int.dvd_coe_gcd k1 k4
    rw [hprm] at k5
    have := Int.le_of_dvd (by omega) k5
    omega
end

section

theorem prmT_div : ∀ (k : Nat) (p n : Int), prmT k p n = true → 101 ≤ p + k → n ≤ 10000 → 2 ≤ p → ∀ q, p ≤ q → q * q ≤ n → ¬ q ∣ n
  | 0, p, n, _, h2, h3, _, q, hq, hqq => by
    have := Int.mul_le_mul (show (101 : Int) ≤ q by omega) (show (101 : Int) ≤ q by omega) (by omega) (by omega)
    omega
  | k + 1, p, n, h1, h2, h3, h4, q, hq, hqq => by
    unfold prmT at h1
    split at h1
    · split at h1
      · cases h1
      · rename_i hne
        by_cases e : q = p
        · subst e
          exact fun hd => hne (Int.emod_eq_zero_of_dvd hd)
        · exact prmT_div k (p + 1) n h1 (by omega) h3 (by omega) q (by omega) hqq
    · rename_i hlt
      have := Int.mul_le_mul hq hq (by omega) (by omega)
      omega
theorem prmB_pr {n : Int} (h : prmB n = true) (hn : n ≤ 10000) : ∃ p : Nat, n = p ∧ Ab.PrN p := by
  unfold prmB at h
  rw [Bool.and_eq_true, decide_eq_true_eq] at h
  obtain ⟨h2, hT⟩ := h
  have hd := prmT_div 200 2 n hT (by omega) hn (by omega)
  refine ⟨n.toNat, by omega, by omega, fun q hq => ?_⟩
  obtain ⟨r, hr⟩ := hq
  apply Classical.byContradiction
  intro hno
  have q0 : q ≠ 0 := fun e => by subst e; rw [Nat.zero_mul] at hr; omega
  have r0 : r ≠ 0 := fun e => by subst e; rw [Nat.mul_zero] at hr; omega
  have r1 : r ≠ 1 := fun e => by subst e; rw [Nat.mul_one] at hr; exact hno (.inr hr.symm)
  have hq1 : q ≠ 1 := fun e => hno (.inl e)
  have hn2 : n = (q : Int) * (r : Int) := by rw [← Int.natCast_mul, ← hr]; omega
  rcases Nat.le_total q r with hle | hle
  · exact hd q (by omega) (by rw [hn2]; exact Int.mul_le_mul_of_nonneg_left (by omega) (by omega)) ⟨r, hn2⟩
  · exact hd r (by omega) (by rw [hn2]; exact Int.mul_le_mul_of_nonneg_right (by omega) (by omega)) ⟨q, by rw [hn2, Int.mul_comm]⟩
theorem rp_none {d p : Int} (hc : isDisc d = true) (h1 : prmB p = true) (h2 : p ≤ 10000) (hno : prF d p = none) : (clsL d).filter (repP d p) = [] := by
  have D := dsc_of hc
  obtain ⟨q, rfl, hp⟩ := prmB_pr h1 h2
  have hp2 := hp.1
  rw [List.filter_eq_nil_iff]
  intro f hf hr
  obtain ⟨x, y, hxy, hv⟩ := (repP_iff D hf (by omega)).1 hr
  obtain ⟨⟨_, _, e3, _⟩, _⟩ := mem_clsL D.lo hf
  obtain ⟨g, hg⟩ := pf_of_rep (d := d) e3 (show (0 : Int) < q by omega) hxy hv
  have hb := pf_prm D hp hf hxy hv hg
  have hs : shB (q : Int) = true := by unfold shB; rw [h1, decide_eq_true h2]; rfl
  rw [prF_yes hc hs, hg] at hno
  simp [Option.filter, hb] at hno
theorem rp_some {d p : Int} {g : Fm} (hg : prF d p = some g) : ∀ f, f ∈ (clsL d).filter (repP d p) ↔ f = red g ∨ f = red (oppF (red g)) := by
  have cg := prF_cf hg
  have hparts : isDisc d = true ∧ shB p = true ∧ pf d p = some g ∧ primB g = true := by
    unfold prF at hg
    split at hg
    · rename_i h
      rw [Bool.and_eq_true] at h
      rw [Option.filter_eq_some_iff] at hg
      exact ⟨h.1, h.2, hg.1, hg.2⟩
    · simp at hg
  obtain ⟨hc, hs, hpf, hb⟩ := hparts
  have D := cg.D
  have hs2 := hs
  unfold shB at hs2
  rw [Bool.and_eq_true, decide_eq_true_eq] at hs2
  obtain ⟨q, rfl, hp⟩ := prmB_pr hs2.2 hs2.1
  have hp2 := hp.1
  have ga : g.a = (q : Int) := by obtain ⟨b, _, _, rfl⟩ := pfF_some _ _ _ _ _ hpf (Int.le_refl _); rfl
  have hprm : Int.gcd g.a (Int.gcd g.b g.c) = 1 := of_decide_eq_true hb
  obtain ⟨ho, cho⟩ := CF.opp0 cg hprm
  intro f
  rw [List.mem_filter]
  constructor
  · rintro ⟨hf, hr⟩
    obtain ⟨x, y, hxy, hv⟩ := (repP_iff D hf (by omega)).1 hr
    rw [← ho]
    exact rep_class D hp hf hxy hv cg ga
  · rintro (rfl | rfl)
    · refine ⟨cg.mem, (repP_iff D cg.mem (by omega)).2 ?_⟩
      obtain ⟨x, y, hxy, hv⟩ := rep_self cg
      exact ⟨x, y, hxy, by rw [hv, ga]⟩
    · rw [← ho] at cho ⊢
      refine ⟨cho.mem, (repP_iff D cho.mem (by omega)).2 ?_⟩
      obtain ⟨x, y, hxy, hv⟩ := rep_self cho
      exact ⟨x, y, hxy, by rw [hv]; exact ga⟩
end
end Go.Proofs.Ytkpiiicefmkhcaa
