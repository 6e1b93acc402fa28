/- Plain facts: the symbols of a triple at all places. -/
import Derived.Test.YtdhennlanngjgaaJN
import Derived.Test.YtdhennlanngjgaaQY
namespace Go.Proofs.Ytdhennlanngjgaa

/-- An odd prime, with its half. -/
structure OdP (p : Int) (h : Nat) : Prop where
  pr : PrI p
  eq : p = ((2 * h + 1 : Nat) : Int)
  h1 : 1 ≤ h
theorem OdP.ex {p : Int} (hp : PrI p) (h2 : 2 < p) : ∃ h, OdP p h := by
  have ho : p % 2 = 1 := by
    rcases two_or p with h | h
    · exact absurd (Int.dvd_of_emod_eq_zero h) (hp.2 2 (by omega) h2)
    · exact h
  exact ⟨(p / 2).toNat, hp, by omega, by omega⟩
theorem OdP.eu {p : Int} {h : Nat} (H : OdP p h) : EuI ((2 * h + 1 : Nat) : Int) := fun a b hd => by
  rw [← H.eq] at hd ⊢; exact pr_eu H.pr hd
/-- The symbol of Legendre. -/
def chi (p x : Int) : Int := jacS (x % p) p
theorem OdP.nn {p : Int} {h : Nat} (H : OdP p h) (x : Int) : 0 ≤ x % p ∧ ((x % p).toNat : Int) = x % p := by
  have := Int.emod_nonneg x (show p ≠ 0 by have := H.pr.1; omega)
  omega
theorem OdP.dm {p : Int} {h : Nat} (H : OdP p h) (x : Int) : p ∣ x - ((x % p).toNat : Int) := by
  rw [(H.nn x).2]
  exact ⟨x / p, by have := Int.emod_add_mul_ediv x p; omega⟩
theorem OdP.cop {p : Int} {h : Nat} (H : OdP p h) {x : Int} (hx : ¬ p ∣ x) : CopQ (x % p).toNat h := by
  have h1 : ¬ p ∣ ((x % p).toNat : Int) := fun hd => hx (by have := Int.dvd_add (H.dm x) hd; rwa [Int.sub_add_cancel] at this)
  have h2 := (cp_prime H.pr h1).symm.gcd
  have h3 : Int.gcd ((x % p).toNat : Int) ((2 * h + 1 : Nat) : Int) = 1 := by rw [← H.eq]; exact h2
  rwa [Int.gcd_natCast_natCast] at h3
theorem OdP.chi_GQ {p : Int} {h : Nat} (H : OdP p h) {x : Int} (hx : ¬ p ∣ x) : chi p x = GQ (x % p).toNat h := by
  have := (jacS_GQ ((x % p).toNat + 1) (x % p).toNat h (by omega)).1 (H.cop hx)
  rw [(H.nn x).2, ← H.eq] at this
  exact this
theorem OdP.same {p : Int} {h : Nat} (H : OdP p h) {a b : Int} {x y : Nat} (ha : a = (x : Int)) (hb : b = (y : Int)) (hd : p ∣ a - b) : x % (2 * h + 1) = y % (2 * h + 1) :=
  nat_mod_of_dvd ha hb (by rw [← H.eq]; exact hd)
theorem OdP.chi_mul {p : Int} {h : Nat} (H : OdP p h) {x y : Int} (hx : ¬ p ∣ x) (hy : ¬ p ∣ y) : chi p (x * y) = chi p x * chi p y := by
  have hxy : ¬ p ∣ x * y := fun hd => by rcases pr_eu H.pr hd with h | h; exact hx h; exact hy h
  rw [H.chi_GQ hx, H.chi_GQ hy, H.chi_GQ hxy, ← GQ_mul (H.cop hx) (H.cop hy)]
  apply GQ_mod
  refine H.same rfl rfl ?_
  obtain ⟨k, hk⟩ := H.dm x
  obtain ⟨l, hl⟩ := H.dm y
  obtain ⟨m, hm⟩ := H.dm (x * y)
  rw [Int.natCast_mul]
  generalize ((x % p).toNat : Int) = u at *
  generalize ((y % p).toNat : Int) = v at *
  exact ⟨k * y + u * l - m, by grind⟩
theorem OdP.chi_pm {p : Int} {h : Nat} (H : OdP p h) {x : Int} (hx : ¬ p ∣ x) : chi p x = 1 ∨ chi p x = -1 := by
  rw [H.chi_GQ hx]; exact GQ_pm _ _
theorem chi_mod {p x y : Int} (hd : p ∣ x - y) : chi p x = chi p y := by
  unfold chi
  rw [Int.emod_eq_emod_iff_emod_sub_eq_zero.2 (Int.emod_eq_zero_of_dvd hd)]
theorem OdP.chi_sq {p : Int} {h : Nat} (H : OdP p h) {x : Int} (hx : ¬ p ∣ x * x) : chi p (x * x) = 1 := by
  have hx1 : ¬ p ∣ x := fun hd => hx (Int.dvd_mul_of_dvd_left hd)
  rw [H.chi_mul hx1 hx1]
  rcases H.chi_pm hx1 with e | e <;> rw [e] <;> rfl
theorem OdP.chi_root {p : Int} {h : Nat} (H : OdP p h) {x : Int} (hx : ¬ p ∣ x) : chi p x = 1 ↔ ∃ r, p ∣ r * r - x := by
  constructor
  · intro e
    rw [H.chi_GQ hx] at e
    obtain ⟨k, _, hk⟩ := GQ_root (H.cop hx) H.h1 H.eu e
    refine ⟨(k : Int) + 1, ?_⟩
    rw [← H.eq] at hk
    have := Int.dvd_sub hk (H.dm x)
    have e2 : ((k : Int) + 1) * ((k : Int) + 1) - ((x % p).toNat : Int) - (x - ((x % p).toNat : Int)) = ((k : Int) + 1) * ((k : Int) + 1) - x := by omega
    rwa [e2] at this
  · rintro ⟨r, hr⟩
    have hr2 : ¬ p ∣ r * r := fun hd => hx (by have := Int.dvd_sub hd hr; rwa [show r * r - (r * r - x) = x by omega] at this)
    rw [← chi_mod hr]; exact H.chi_sq hr2
theorem pow_dvd_sub {p x y : Int} (hd : p ∣ x - y) : ∀ n : Nat, p ∣ x ^ n - y ^ n
  | 0 => by simp
  | n + 1 => by
    obtain ⟨k, hk⟩ := hd
    obtain ⟨l, hl⟩ := pow_dvd_sub ⟨k, hk⟩ n
    rw [Int.pow_succ, Int.pow_succ]
    exact ⟨l * x + y ^ n * k, by grind⟩
theorem OdP.chi_neg {p : Int} {h : Nat} (H : OdP p h) : chi p (-1) = if p % 4 = 3 then -1 else 1 := by
  have h2 := H.h1
  have hp := H.eq
  have hx : ¬ p ∣ (-1 : Int) := pr_nunit H.pr (.inr rfl)
  have e1 := euler_GQ (H.cop hx) H.h1 H.eu
  rw [← H.eq, ← H.chi_GQ hx] at e1
  have e2 : p ∣ ((-1 % p).toNat : Int) ^ h - (-1) ^ h := pow_dvd_sub (by have := Int.dvd_neg.2 (H.dm (-1)); rwa [Int.neg_sub] at this) h
  rw [neg_powQ] at e2
  have e3 := Int.dvd_sub e1 e2
  generalize ((-1 % p).toNat : Int) ^ h = P at *
  have e4 : p ∣ chi p (-1) - sgn h := by
    have := Int.dvd_neg.2 e3
    rwa [show -(P - chi p (-1) - (P - sgn h)) = chi p (-1) - sgn h by omega] at this
  have e5 : sgn h = if p % 4 = 3 then -1 else 1 := by
    unfold sgn
    split <;> split <;> first | rfl | omega
  rw [← e5]
  have s := sgn_pm h
  have c := H.chi_pm hx
  have le : ∀ t : Int, 0 < t → t ≤ 2 → ¬ p ∣ t := fun t h1 h2 hd => by have := Int.le_of_dvd h1 hd; omega
  rcases c with c | c <;> rcases s with s | s <;> rw [c, s] at e4 ⊢
  · exact absurd e4 (le 2 (by omega) (by omega))
  · exact absurd ((Int.dvd_neg).1 e4) (le 2 (by omega) (by omega))
/-- The part of a number that p does not divide. -/
def rsP (p x : Int) : Int := x / p ^ (exA p x).toNat
theorem rsP_eq {p x : Int} (hp : 2 ≤ p) (hx : x ≠ 0) : x = p ^ (exA p x).toNat * rsP p x ∧ ¬ p ∣ rsP p x := by
  obtain ⟨m, e, hm⟩ := exA_split hp hx
  have h0 : p ^ (exA p x).toNat ≠ 0 := Int.pow_ne_zero (by omega)
  have : rsP p x = m := by
    unfold rsP
    generalize p ^ (exA p x).toNat = P at *
    rw [e, Int.mul_ediv_cancel_left _ h0]
  rw [this]; exact ⟨e, hm⟩
def spw (s k : Int) : Int := if k % 2 = 0 then 1 else s
/-- The Hilbert symbol, as the program has it. -/
def hlS (a b p : Int) : Int :=
  if p = 0 then (if a < 0 ∧ b < 0 then -1 else 1)
  else if p = 2 then (if rsP 2 a % 4 = 3 ∧ rsP 2 b % 4 = 3 then -1 else 1) * spw (two (rsP 2 a)) (exA 2 b) * spw (two (rsP 2 b)) (exA 2 a)
  else (if exA p a % 2 = 1 ∧ exA p b % 2 = 1 ∧ p % 4 = 3 then -1 else 1) * spw (chi p (rsP p a)) (exA p b) * spw (chi p (rsP p b)) (exA p a)
theorem odE_neg (p x : Int) : odE p (-x) = odE p x := by unfold odE; rw [Int.natAbs_neg]
/-- The parts of the two numbers of the symbol, and what is known of them. -/
structure HlD (a b c p A B C J K u v : Int) : Prop where
  eu : -(a * c) = p ^ J.toNat * u
  ev : -(b * c) = p ^ K.toNat * v
  nu : ¬ p ∣ u
  nv : ¬ p ∣ v
  J0 : 0 ≤ J
  K0 : 0 ≤ K
  J1 : J % 2 = (odE p a + odE p c) % 2
  K1 : K % 2 = (odE p b + odE p c) % 2
  s1 : ∃ t, B * C * (b * c) = t * t
  s2 : ∃ t, A * C * (a * c) = t * t
  s3 : ∃ t, A * B * (a * b) = t * t
  dA : p ∣ A ↔ p ∣ a * b * c ∧ cdE a b c a p = true
  dB : p ∣ B ↔ p ∣ a * b * c ∧ cdE a b c b p = true
  dC : p ∣ C ↔ p ∣ a * b * c ∧ cdE a b c c p = true
theorem TrI.hlD {a b c p : Int} (h : TrI a b c) (hp : PrI p) :
    HlD a b c p (nfE a b c a) (nfE a b c b) (nfE a b c c) (exA p (-(a * c))) (exA p (-(b * c))) (rsP p (-(a * c))) (rsP p (-(b * c))) := by
  have a0 := h.a0; have b0 := h.b0; have c0 := h.c0
  have ac : -(a * c) ≠ 0 := fun e => Int.mul_ne_zero a0 c0 (by omega)
  have bc : -(b * c) ≠ 0 := fun e => Int.mul_ne_zero b0 c0 (by omega)
  obtain ⟨s1, s2, s3⟩ := h.nsq3
  have e1 := odE_mul hp a0 c0
  have e2 := odE_mul hp b0 c0
  rw [← odE_neg] at e1 e2
  have d : ∀ x, x ≠ 0 → (p ∣ nfE a b c x ↔ p ∣ a * b * c ∧ cdE a b c x p = true) := fun x hx => by
    rw [h.ndvd hx hp, h.pr]
    exact ⟨fun ⟨⟨_, h1⟩, h2⟩ => ⟨h1, h2⟩, fun ⟨h1, h2⟩ => ⟨⟨hp, h1⟩, h2⟩⟩
  exact ⟨(rsP_eq hp.1 ac).1, (rsP_eq hp.1 bc).1, (rsP_eq hp.1 ac).2, (rsP_eq hp.1 bc).2, exA_nn _ _, exA_nn _ _, e1, e2, s1, s2, s3, d a a0, d b b0, d c c0⟩
theorem ev_split {p m t J : Int} (hp : PrI p) (_ : 0 ≤ J) (h1 : J % 2 = 0) (e : p ^ J.toNat * m = t * t) : ∃ s, m = s * s :=
  sq_split hp (J.toNat / 2) t (by rw [show 2 * (J.toNat / 2) = J.toNat by omega]; exact e)
theorem cd_iff {a b c x p : Int} : cdE a b c x p = true ↔ (odE p a + odE p b + odE p c = 1 ∧ odE p x = 1 ∨ odE p a + odE p b + odE p c = 2 ∧ odE p x = 0) := by
  unfold cdE mnE; rw [decide_eq_true_eq]
/-- Which number of the normal triple p divides, by the parities of the exponents of the symbol's two numbers. -/
theorem HlD.which {a b c p A B C J K u v : Int} (D : HlD a b c p A B C J K u v) :
    (J % 2 = 0 ∧ K % 2 = 0 ∧ ¬ p ∣ A ∧ ¬ p ∣ B ∧ ¬ p ∣ C) ∨ (J % 2 = 1 ∧ K % 2 = 0 ∧ p ∣ A ∧ ¬ p ∣ B ∧ ¬ p ∣ C) ∨ (J % 2 = 0 ∧ K % 2 = 1 ∧ ¬ p ∣ A ∧ p ∣ B ∧ ¬ p ∣ C) ∨ (J % 2 = 1 ∧ K % 2 = 1 ∧ ¬ p ∣ A ∧ ¬ p ∣ B ∧ p ∣ C) := by
  have ha := odE_two p a; have hb := odE_two p b; have hc := odE_two p c
  have J1 := D.J1; have K1 := D.K1
  have hd : (odE p a = 1 ∨ odE p b = 1 ∨ odE p c = 1) → p ∣ a * b * c := fun ho => by
    apply Classical.byContradiction; intro hn
    have n1 : ¬ p ∣ a := fun h1 => hn (Int.dvd_mul_of_dvd_left (Int.dvd_mul_of_dvd_left h1))
    have n2 : ¬ p ∣ b := fun h1 => hn (Int.dvd_mul_of_dvd_left (Int.dvd_mul_of_dvd_right h1))
    have n3 : ¬ p ∣ c := fun h1 => hn (Int.dvd_mul_of_dvd_right h1)
    rw [odE_ndvd n1, odE_ndvd n2, odE_ndvd n3] at ho
    omega
  rw [D.dA, D.dB, D.dC, cd_iff, cd_iff, cd_iff]
  clear D
  generalize odE p a = x at *
  generalize odE p b = y at *
  generalize odE p c = z at *
  generalize hP : (p ∣ a * b * c) = P at *
  clear hP
  rcases ha with rfl | rfl <;> rcases hb with rfl | rfl <;> rcases hc with rfl | rfl <;> simp at hd J1 K1 ⊢ <;> first | (simp [hd]; omega) | omega
theorem HlD.nsqv {a b c p A B C J K u v : Int} (D : HlD a b c p A B C J K u v) (hp : PrI p) (hK : K % 2 = 0) : ∃ s, v * -(B * C) = s * s := by
  obtain ⟨t, ht⟩ := D.s1
  refine ev_split (t := t) hp D.K0 hK ?_
  rw [← ht, ← Int.mul_assoc, ← D.ev]; grind
theorem HlD.nsqu {a b c p A B C J K u v : Int} (D : HlD a b c p A B C J K u v) (hp : PrI p) (hJ : J % 2 = 0) : ∃ s, u * -(A * C) = s * s := by
  obtain ⟨t, ht⟩ := D.s2
  refine ev_split (t := t) hp D.J0 hJ ?_
  rw [← ht, ← Int.mul_assoc, ← D.eu]; grind
theorem HlD.nsquv {a b c p A B C J K u v : Int} (D : HlD a b c p A B C J K u v) (hp : PrI p) (hJ : J % 2 = 1) (hK : K % 2 = 1) : ∃ s, u * v * (A * B) = s * s := by
  obtain ⟨t, ht⟩ := D.s3
  have J0 := D.J0; have K0 := D.K0
  refine ev_split (J := J + K) (t := t * c) hp (by omega) (by omega) ?_
  have e : (J + K).toNat = J.toNat + K.toNat := by omega
  have e1 : p ^ (J.toNat + K.toNat) * (u * v * (A * B)) = (p ^ J.toNat * u) * (p ^ K.toNat * v) * (A * B) := by rw [Int.pow_add]; grind
  rw [e, e1, ← D.eu, ← D.ev]
  have e2 : t * c * (t * c) = (t * t) * (c * c) := by grind
  rw [e2, ← ht]; grind
theorem HlD.hod {a b c p A B C J K u v : Int} (D : HlD a b c p A B C J K u v) (hp : PrI p) (hJ : J % 2 = 1) (hA : p ∣ A) : ∃ s, u * -(A / p * C) = s * s := by
  obtain ⟨t, ht⟩ := D.s2
  have J0 := D.J0
  refine ev_split (J := J + 1) (t := t) hp (by omega) (by omega) ?_
  obtain ⟨k, rfl⟩ := hA
  have hp0 : p ≠ 0 := by have := hp.1; omega
  rw [Int.mul_ediv_cancel_left _ hp0, show (J + 1).toNat = J.toNat + 1 by omega, Int.pow_succ]
  have e1 : p ^ J.toNat * p * (u * -(k * C)) = p * (p ^ J.toNat * u) * -(k * C) := by grind
  rw [e1, ← D.eu, ← ht]; grind
theorem HlD.hodv {a b c p A B C J K u v : Int} (D : HlD a b c p A B C J K u v) (hp : PrI p) (hK : K % 2 = 1) (hB : p ∣ B) : ∃ s, v * -(B / p * C) = s * s := by
  obtain ⟨t, ht⟩ := D.s1
  have K0 := D.K0
  refine ev_split (J := K + 1) (t := t) hp (by omega) (by omega) ?_
  obtain ⟨k, rfl⟩ := hB
  have hp0 : p ≠ 0 := by have := hp.1; omega
  rw [Int.mul_ediv_cancel_left _ hp0, show (K + 1).toNat = K.toNat + 1 by omega, Int.pow_succ]
  have e1 : p ^ K.toNat * p * (v * -(k * C)) = p * (p ^ K.toNat * v) * -(k * C) := by grind
  rw [e1, ← D.ev, ← ht]; grind
theorem HlD.hodc {a b c p A B C J K u v : Int} (D : HlD a b c p A B C J K u v) (hp : PrI p) (hJ : J % 2 = 1) (hC : p ∣ C) : ∃ s, u * -(A * (C / p)) = s * s := by
  obtain ⟨t, ht⟩ := D.s2
  have J0 := D.J0
  refine ev_split (J := J + 1) (t := t) hp (by omega) (by omega) ?_
  obtain ⟨k, rfl⟩ := hC
  have hp0 : p ≠ 0 := by have := hp.1; omega
  rw [Int.mul_ediv_cancel_left _ hp0, show (J + 1).toNat = J.toNat + 1 by omega, Int.pow_succ]
  have e1 : p ^ J.toNat * p * (u * -(A * k)) = p * (p ^ J.toNat * u) * -(A * k) := by grind
  rw [e1, ← D.eu, ← ht]; grind
theorem HlD.hodcv {a b c p A B C J K u v : Int} (D : HlD a b c p A B C J K u v) (hp : PrI p) (hK : K % 2 = 1) (hC : p ∣ C) : ∃ s, v * -(B * (C / p)) = s * s := by
  obtain ⟨t, ht⟩ := D.s1
  have K0 := D.K0
  refine ev_split (J := K + 1) (t := t) hp (by omega) (by omega) ?_
  obtain ⟨k, rfl⟩ := hC
  have hp0 : p ≠ 0 := by have := hp.1; omega
  rw [Int.mul_ediv_cancel_left _ hp0, show (K + 1).toNat = K.toNat + 1 by omega, Int.pow_succ]
  have e1 : p ^ K.toNat * p * (v * -(B * k)) = p * (p ^ K.toNat * v) * -(B * k) := by grind
  rw [e1, ← D.ev, ← ht]; grind
theorem OdP.chi_pair {p : Int} {h : Nat} (H : OdP p h) {x y s : Int} (hx : ¬ p ∣ x) (hy : ¬ p ∣ y) (e : x * y = s * s) : chi p x = chi p y := by
  have hxy : ¬ p ∣ x * y := fun hd => by rcases pr_eu H.pr hd with h | h; exact hx h; exact hy h
  have h1 := H.chi_mul hx hy
  rw [e, H.chi_sq (by rw [← e]; exact hxy)] at h1
  rcases H.chi_pm hx with c | c <;> rcases H.chi_pm hy with d | d <;> rw [c, d] at h1 ⊢ <;> omega
theorem neg_nd {p x y : Int} (hp : PrI p) (hx : ¬ p ∣ x) (hy : ¬ p ∣ y) : ¬ p ∣ -(x * y) := fun hd => by
  rcases pr_eu hp ((Int.dvd_neg).1 hd) with h | h
  · exact hx h
  · exact hy h
/-- The symbol at an odd prime. -/
theorem hl_odd {a b c p : Int} (h : TrI a b c) (hp : PrI p) (h2 : 2 < p) :
    hlS (-(a * c)) (-(b * c)) p = if p ∣ nfE a b c a * nfE a b c b * nfE a b c c then chi p (-kkE (nfE a b c a) (nfE a b c b) (nfE a b c c) p) else 1 := by
  obtain ⟨g, H⟩ := OdP.ex hp h2
  have D := h.hlD hp
  unfold hlS
  rw [if_neg (by omega), if_neg (by omega)]
  generalize exA p (-(a * c)) = J at *
  generalize exA p (-(b * c)) = K at *
  generalize rsP p (-(a * c)) = u at *
  generalize rsP p (-(b * c)) = v at *
  generalize nfE a b c a = A at *
  generalize nfE a b c b = B at *
  generalize nfE a b c c = C at *
  rcases D.which with ⟨j, k, n1, n2, n3⟩ | ⟨j, k, n1, n2, n3⟩ | ⟨j, k, n1, n2, n3⟩ | ⟨j, k, n1, n2, n3⟩
  · rw [if_neg (by omega), if_neg (fun hd => by
      rcases pr_eu hp hd with h1 | h1
      · rcases pr_eu hp h1 with h1 | h1
        · exact n1 h1
        · exact n2 h1
      · exact n3 h1)]
    unfold spw
    rw [if_pos j, if_pos k]; rfl
  · obtain ⟨s, hs⟩ := D.nsqv hp k
    rw [if_neg (by omega), if_pos (Int.dvd_mul_of_dvd_left (Int.dvd_mul_of_dvd_left n1)), kk1 n1]
    unfold spw
    rw [if_pos k, if_neg (by omega), H.chi_pair D.nv (neg_nd hp n2 n3) hs]
    omega
  · obtain ⟨s, hs⟩ := D.nsqu hp j
    rw [if_neg (by omega), if_pos (Int.dvd_mul_of_dvd_left (Int.dvd_mul_of_dvd_right n2)), kk2 n1 n2]
    unfold spw
    rw [if_pos j, if_neg (by omega), H.chi_pair D.nu (neg_nd hp n1 n3) hs]
    omega
  · obtain ⟨s, hs⟩ := D.nsquv hp j k
    rw [if_pos (Int.dvd_mul_of_dvd_right n3), kk3 n1 n2]
    unfold spw
    rw [if_neg (show ¬ K % 2 = 0 by omega), if_neg (show ¬ J % 2 = 0 by omega)]
    have nab : ¬ p ∣ A * B := fun hd => by rcases pr_eu hp hd with h | h; exact n1 h; exact n2 h
    have nuv : ¬ p ∣ u * v := fun hd => by rcases pr_eu hp hd with h | h; exact D.nu h; exact D.nv h
    have e1 := H.chi_pair nuv nab hs
    rw [H.chi_mul D.nu D.nv] at e1
    have e2 : chi p (-(A * B)) = chi p (-1) * chi p (A * B) := by
      rw [← H.chi_mul (pr_nunit hp (.inr rfl)) nab]; congr 1; omega
    rw [e2, ← e1, H.chi_neg]
    by_cases h4 : p % 4 = 3
    · rw [if_pos ⟨j, k, h4⟩, if_pos h4, Int.mul_assoc]
    · rw [if_neg (fun h => h4 h.2.2), if_neg h4, Int.mul_assoc]
theorem hl_odd_one {a b c p : Int} (h : TrI a b c) (hp : PrI p) (h2 : 2 < p) :
    (hlS (-(a * c)) (-(b * c)) p = 1 ∨ hlS (-(a * c)) (-(b * c)) p = -1) ∧
    (hlS (-(a * c)) (-(b * c)) p = 1 ↔ (p ∣ nfE a b c a * nfE a b c b * nfE a b c c → ∃ r, p ∣ r * r + kkE (nfE a b c a) (nfE a b c b) (nfE a b c c) p)) := by
  obtain ⟨g, H⟩ := OdP.ex hp h2
  rw [hl_odd h hp h2]
  by_cases hd : p ∣ nfE a b c a * nfE a b c b * nfE a b c c
  · rw [if_pos hd]
    have hk : ¬ p ∣ -kkE (nfE a b c a) (nfE a b c b) (nfE a b c c) p := fun hk => by
      have hk := (Int.dvd_neg).1 hk
      rcases h.one hp hd with ⟨n1, n2, n3⟩ | ⟨n1, n2, n3⟩ | ⟨n1, n2, n3⟩
      · rw [kk1 n1] at hk
        rcases pr_eu hp hk with e | e
        · exact n2 e
        · exact n3 e
      · rw [kk2 n1 n2] at hk
        rcases pr_eu hp hk with e | e
        · exact n1 e
        · exact n3 e
      · rw [kk3 n1 n2] at hk
        rcases pr_eu hp hk with e | e
        · exact n1 e
        · exact n2 e
    refine ⟨H.chi_pm hk, ?_⟩
    rw [H.chi_root hk]
    simp only [Int.sub_neg]
    exact ⟨fun h _ => h, fun h => h hd⟩
  · rw [if_neg hd]
    exact ⟨.inl rfl, ⟨fun _ h => absurd h hd, fun _ => rfl⟩⟩
theorem hl_real {a b c : Int} (a0 : a ≠ 0) (b0 : b ≠ 0) (c0 : c ≠ 0) : (hlS (-(a * c)) (-(b * c)) 0 = 1 ∨ hlS (-(a * c)) (-(b * c)) 0 = -1) ∧ (hlS (-(a * c)) (-(b * c)) 0 = -1 ↔ (a.sign = b.sign ∧ a.sign = c.sign)) := by
  unfold hlS
  rw [if_pos rfl]
  constructor
  · split <;> simp
  have key : ∀ x : Int, x ≠ 0 → (-(x * c) < 0 ↔ x.sign = c.sign) := fun x hx => by
    constructor
    · intro h
      rcases Int.lt_or_gt_of_ne hx with h1 | h1 <;> rcases Int.lt_or_gt_of_ne c0 with h2 | h2
      · rw [Int.sign_eq_neg_one_of_neg h1, Int.sign_eq_neg_one_of_neg h2]
      · have := Int.mul_neg_of_neg_of_pos h1 h2; omega
      · have := Int.mul_neg_of_pos_of_neg h1 h2; omega
      · rw [Int.sign_eq_one_of_pos h1, Int.sign_eq_one_of_pos h2]
    · intro h
      have := mul_sign_pos hx h; omega
  split
  · rename_i hh
    have h1 := (key a a0).1 hh.1
    have h2 := (key b b0).1 hh.2
    exact ⟨fun _ => ⟨h1.trans h2.symm, h1⟩, fun _ => rfl⟩
  · rename_i hh
    constructor
    · intro h; omega
    · rintro ⟨h1, h2⟩
      exact absurd ⟨(key a a0).2 h2, (key b b0).2 (h1.symm.trans h2)⟩ hh
/-! The place 2. -/
def od4 : List Int := [1, 3, 5, 7]
def sq4 : List Int := [0, 1, 4]
theorem od_mem {x : Int} (h : ¬ (2 : Int) ∣ x) : x % 8 ∈ od4 := by
  have : ¬ x % 2 = 0 := fun e => h (Int.dvd_of_emod_eq_zero e)
  have h8 : x % 8 = 1 ∨ x % 8 = 3 ∨ x % 8 = 5 ∨ x % 8 = 7 := by omega
  unfold od4
  rcases h8 with e | e | e | e <;> rw [e] <;> decide
theorem sq_mem (x : Int) : (x * x) % 8 ∈ sq4 ∧ (¬ (2 : Int) ∣ x → (x * x) % 8 = 1) := by
  have e : (x * x) % 8 = ((x % 8) * (x % 8)) % 8 := Int.mul_emod x x 8
  have h8 : x % 8 = 0 ∨ x % 8 = 1 ∨ x % 8 = 2 ∨ x % 8 = 3 ∨ x % 8 = 4 ∨ x % 8 = 5 ∨ x % 8 = 6 ∨ x % 8 = 7 := by omega
  refine ⟨?_, fun h => ?_⟩
  · rw [e]; unfold sq4
    rcases h8 with h | h | h | h | h | h | h | h <;> rw [h] <;> decide
  · have h2 : ¬ x % 2 = 0 := fun e => h (Int.dvd_of_emod_eq_zero e)
    rw [e]
    rcases h8 with h | h | h | h | h | h | h | h <;> first | (rw [h]; rfl) | omega
def nd4 (u v : Int) : Int := if u % 4 = 3 ∧ v % 4 = 3 then -1 else 1
def tw8 (n : Int) : Int := if n = 1 ∨ n = 7 then 1 else -1
theorem two_tw8 (n : Int) : two n = tw8 (n % 8) := rfl
theorem nd4_mod (u v : Int) : (if u % 4 = 3 ∧ v % 4 = 3 then (-1 : Int) else 1) = nd4 (u % 8) (v % 8) := by
  unfold nd4
  rw [show u % 8 % 4 = u % 4 by omega, show v % 8 % 4 = v % 4 by omega]
theorem tab_odd : (od4.all fun a => od4.all fun b => od4.all fun c => sq4.all fun x => sq4.all fun y => sq4.all fun z =>
    !((x == 1 || y == 1 || z == 1) && (a * x + b * y + c * z) % 8 == 0) || nd4 ((-(a * c)) % 8) ((-(b * c)) % 8) == 1) = true := by decide +kernel
theorem tab_A : (od4.all fun a => od4.all fun b => od4.all fun c => sq4.all fun x => sq4.all fun y => sq4.all fun z =>
    !((x == 1 || y == 1 || z == 1) && (2 * a * x + b * y + c * z) % 8 == 0) || nd4 ((-(a * c)) % 8) ((-(b * c)) % 8) * tw8 ((-(b * c)) % 8) == 1) = true := by decide +kernel
theorem tab_C : (od4.all fun a => od4.all fun b => od4.all fun c => sq4.all fun x => sq4.all fun y => sq4.all fun z =>
    !((x == 1 || y == 1 || z == 1) && (a * x + b * y + 2 * c * z) % 8 == 0) || nd4 ((-(a * c)) % 8) ((-(b * c)) % 8) * tw8 ((-(a * c)) % 8) * tw8 ((-(b * c)) % 8) == 1) = true := by decide +kernel
theorem tab_use {F : Int → Int → Int → Int → Int → Int → Bool} (h : (od4.all fun a => od4.all fun b => od4.all fun c => sq4.all fun x => sq4.all fun y => sq4.all fun z => F a b c x y z) = true)
    {a b c x y z : Int} (ha : a ∈ od4) (hb : b ∈ od4) (hc : c ∈ od4) (hx : x ∈ sq4) (hy : y ∈ sq4) (hz : z ∈ sq4) : F a b c x y z = true := by
  have h := List.all_eq_true.1 (List.all_eq_true.1 (List.all_eq_true.1 (List.all_eq_true.1 (List.all_eq_true.1 (List.all_eq_true.1 h a ha) b hb) c hc) x hx) y hy) z hz
  exact h
/-- Two odd numbers whose product is a square leave the same rest modulo 8. -/
theorem pair8 {u w s : Int} (hu : ¬ (2 : Int) ∣ u) (hw : ¬ (2 : Int) ∣ w) (e : u * w = s * s) : u % 8 = w % 8 := by
  have h1 := od_mem hu
  have h2 := od_mem hw
  have hs : ¬ (2 : Int) ∣ s := fun h => by
    have h3 : (2 : Int) ∣ u * w := by rw [e]; exact Int.dvd_mul_of_dvd_left h
    have hu2 : u % 2 = 1 := by have : ¬ u % 2 = 0 := fun e => hu (Int.dvd_of_emod_eq_zero e); omega
    have hw2 : w % 2 = 1 := by have : ¬ w % 2 = 0 := fun e => hw (Int.dvd_of_emod_eq_zero e); omega
    have h4 := Int.emod_eq_zero_of_dvd h3
    rw [Int.mul_emod, hu2, hw2] at h4
    omega
  have h3 : (u % 8 * (w % 8)) % 8 = 1 := by rw [← Int.mul_emod, e]; exact (sq_mem s).2 hs
  unfold od4 at h1 h2
  simp only [List.mem_cons, List.not_mem_nil, or_false] at h1 h2
  rcases h1 with h1 | h1 | h1 | h1 <;> rcases h2 with h2 | h2 | h2 | h2 <;> rw [h1, h2] at h3 ⊢ <;> omega
theorem neg_mul8 (a c : Int) : (-(a * c)) % 8 = (-((a % 8) * (c % 8))) % 8 := by
  have := Int.mul_emod a c 8
  omega
theorem form8 {k a b c x y z l : Int} (e : k * a * (x * x) + b * (y * y) + l * c * (z * z) = 0) : (k * (a % 8) * ((x * x) % 8) + (b % 8) * ((y * y) % 8) + l * (c % 8) * ((z * z) % 8)) % 8 = 0 := by
  apply Int.emod_eq_zero_of_dvd
  have e1 := Int.emod_add_mul_ediv a 8
  have e2 := Int.emod_add_mul_ediv b 8
  have e3 := Int.emod_add_mul_ediv c 8
  have e4 := Int.emod_add_mul_ediv (x * x) 8
  have e5 := Int.emod_add_mul_ediv (y * y) 8
  have e6 := Int.emod_add_mul_ediv (z * z) 8
  have k1 : ∀ m : Int, ∀ p q p' q' u v : Int, p + 8 * u = p' → q + 8 * v = q' → (8 : Int) ∣ m * p' * q' - m * p * q := by
    intro m p q p' q' u v h1 h2; rw [← h1, ← h2]; exact ⟨m * (u * q + p * v + 8 * u * v), by grind⟩
  have f1 := k1 k _ _ _ _ _ _ e1 e4
  have f2 := k1 1 _ _ _ _ _ _ e2 e5
  have f3 := k1 l _ _ _ _ _ _ e3 e6
  rw [Int.one_mul, Int.one_mul] at f2
  obtain ⟨g1, h1⟩ := f1
  obtain ⟨g2, h2⟩ := f2
  obtain ⟨g3, h3⟩ := f3
  exact ⟨-(g1 + g2 + g3), by omega⟩
theorem pr_two : PrI 2 := ⟨by omega, fun q h1 h2 => by omega⟩
/-- The symbol at 2, of a triple that has a solution. -/
theorem hl_two {a b c x y z : Int} (h : TrI a b c) (e : nfE a b c a * (x * x) + nfE a b c b * (y * y) + nfE a b c c * (z * z) = 0) (hm : ∀ m : Int, m ∣ x → m ∣ y → m ∣ z → m ∣ 1) :
    hlS (-(a * c)) (-(b * c)) 2 = 1 := by
  have D := h.hlD pr_two
  have qa := h.nsqf h.a0
  have qb := h.nsqf h.b0
  have qc := h.nsqf h.c0
  unfold hlS
  rw [if_neg (by omega), if_pos rfl]
  generalize exA 2 (-(a * c)) = J at *
  generalize exA 2 (-(b * c)) = K at *
  generalize rsP 2 (-(a * c)) = u at *
  generalize rsP 2 (-(b * c)) = v at *
  generalize nfE a b c a = A at *
  generalize nfE a b c b = B at *
  generalize nfE a b c c = C at *
  have sx := sq_mem x
  have sy := sq_mem y
  have sz := sq_mem z
  have some1 : ((x * x) % 8 == 1 || (y * y) % 8 == 1 || (z * z) % 8 == 1) = true := by
    apply Classical.byContradiction; intro hn
    have k : ∀ t : Int, (¬ (2 : Int) ∣ t → (t * t) % 8 = 1) → ¬ ((t * t) % 8 == 1) = true → (2 : Int) ∣ t := fun t ht hf =>
      Classical.byContradiction fun hd => hf (by rw [ht hd]; rfl)
    have h2 := hm 2 (k x sx.2 fun h => hn (by rw [h]; rfl)) (k y sy.2 fun h => hn (by rw [h, Bool.or_true]; rfl)) (k z sz.2 fun h => hn (by rw [h, Bool.or_true]))
    have := Int.le_of_dvd (by omega) h2
    omega
  have half : ∀ {t : Int}, Sqf t → (2 : Int) ∣ t → ¬ (2 : Int) ∣ t / 2 := fun {t} q hd h2 => by
    obtain ⟨k, rfl⟩ := hd
    rw [Int.mul_ediv_cancel_left _ (by omega)] at h2
    obtain ⟨l, rfl⟩ := h2
    exact q 2 (by omega) ⟨l, by omega⟩
  rw [nd4_mod, two_tw8, two_tw8]
  rcases D.which with ⟨j, k, n1, n2, n3⟩ | ⟨j, k, n1, n2, n3⟩ | ⟨j, k, n1, n2, n3⟩ | ⟨j, k, n1, n2, n3⟩
  · obtain ⟨s, hs⟩ := D.nsqu pr_two j
    obtain ⟨t, ht⟩ := D.nsqv pr_two k
    rw [pair8 D.nu (neg_nd pr_two n1 n3) hs, pair8 D.nv (neg_nd pr_two n2 n3) ht, neg_mul8, neg_mul8 B]
    have T := tab_use tab_odd (od_mem n1) (od_mem n2) (od_mem n3) sx.1 sy.1 sz.1
    have f := form8 (k := 1) (l := 1) (a := A) (b := B) (c := C) (x := x) (y := y) (z := z) (by rw [Int.one_mul, Int.one_mul]; exact e)
    rw [Int.one_mul, Int.one_mul] at f
    rw [some1, f] at T
    unfold spw
    rw [if_pos j, if_pos k, Int.mul_one, Int.mul_one]
    simpa using T
  · obtain ⟨s, hs⟩ := D.hod pr_two j n1
    obtain ⟨t, ht⟩ := D.nsqv pr_two k
    have n1' := half qa n1
    have hA : 2 * (A / 2) = A := Int.mul_ediv_cancel' n1
    rw [pair8 D.nu (neg_nd pr_two n1' n3) hs, pair8 D.nv (neg_nd pr_two n2 n3) ht, neg_mul8, neg_mul8 B]
    have T := tab_use tab_A (od_mem n1') (od_mem n2) (od_mem n3) sx.1 sy.1 sz.1
    have f := form8 (k := 2) (l := 1) (a := A / 2) (b := B) (c := C) (x := x) (y := y) (z := z) (by rw [hA, Int.one_mul]; exact e)
    rw [Int.one_mul] at f
    rw [some1, f] at T
    unfold spw
    rw [if_neg (show ¬ J % 2 = 0 by omega), if_pos k, Int.mul_one]
    simpa using T
  · obtain ⟨s, hs⟩ := D.nsqu pr_two j
    obtain ⟨t, ht⟩ := D.hodv pr_two k n2
    have n2' := half qb n2
    have hB : 2 * (B / 2) = B := Int.mul_ediv_cancel' n2
    rw [pair8 D.nu (neg_nd pr_two n1 n3) hs, pair8 D.nv (neg_nd pr_two n2' n3) ht, neg_mul8, neg_mul8 (B / 2)]
    have T := tab_use tab_A (od_mem n2') (od_mem n1) (od_mem n3) sy.1 sx.1 sz.1
    have f := form8 (k := 2) (l := 1) (a := B / 2) (b := A) (c := C) (x := y) (y := x) (z := z) (by rw [hB, Int.one_mul]; omega)
    rw [Int.one_mul] at f
    rw [Bool.or_comm ((y * y) % 8 == 1), some1, f] at T
    unfold spw
    rw [if_pos j, if_neg (show ¬ K % 2 = 0 by omega), Int.mul_one]
    have nc : ∀ p q : Int, nd4 p q = nd4 q p := fun p q => by unfold nd4; simp only [and_comm]
    rw [nc]
    simpa using T
  · obtain ⟨s, hs⟩ := D.hodc pr_two j n3
    obtain ⟨t, ht⟩ := D.hodcv pr_two k n3
    have n3' := half qc n3
    have hC : 2 * (C / 2) = C := Int.mul_ediv_cancel' n3
    rw [pair8 D.nu (neg_nd pr_two n1 n3') hs, pair8 D.nv (neg_nd pr_two n2 n3') ht, neg_mul8, neg_mul8 B]
    have T := tab_use tab_C (od_mem n1) (od_mem n2) (od_mem n3') sx.1 sy.1 sz.1
    have f := form8 (k := 1) (l := 2) (a := A) (b := B) (c := C / 2) (x := x) (y := y) (z := z) (by rw [hC, Int.one_mul]; exact e)
    rw [Int.one_mul] at f
    rw [some1, f] at T
    unfold spw
    rw [if_neg (show ¬ J % 2 = 0 by omega), if_neg (show ¬ K % 2 = 0 by omega)]
    simpa using T
theorem TrI.nrT {a b c : Int} (h : TrI a b c) (hn : TrI (nfE a b c a) (nfE a b c b) (nfE a b c c)) : NrT (nfE a b c a) (nfE a b c b) (nfE a b c c) :=
  ⟨hn, fun _ hq hd => h.one hq hd, h.nsqf h.a0, h.nsqf h.b0, h.nsqf h.c0⟩
/-- A triple without a forbidding place has the symbol 1 at all places. -/
theorem hl_all {a b c : Int} (h : TrI a b c) (hn : TrI (nfE a b c a) (nfE a b c b) (nfE a b c c)) (hp : plG (nfE a b c a) (nfE a b c b) (nfE a b c c) < 0) {p : Int} (hpp : p = 0 ∨ p = 2 ∨ PrI p) :
    hlS (-(a * c)) (-(b * c)) p = 1 := by
  obtain ⟨hs, hr⟩ := (plG_neg hn).1 hp
  rw [h.nsign, h.nsign, h.nsign] at hs
  rcases hpp with rfl | rfl | hq
  · obtain ⟨h1, h2⟩ := hl_real h.a0 h.b0 h.c0
    rcases h1 with h1 | h1
    · exact h1
    · exact absurd (h2.1 h1) hs
  · obtain ⟨x, y, z, e, _, _, _, _, _, _, hm⟩ := (h.nrT hn).solve hp
    exact hl_two h e hm
  · by_cases h2 : p = 2
    · subst h2
      obtain ⟨x, y, z, e, _, _, _, _, _, _, hm⟩ := (h.nrT hn).solve hp
      exact hl_two h e hm
    · exact (hl_odd_one h hq (by have := hq.1; omega)).2.2 (hr p hq (by have := hq.1; omega))
/-- The forbidding place has the symbol -1. -/
theorem hl_bad {a b c : Int} (h : TrI a b c) (hn : TrI (nfE a b c a) (nfE a b c b) (nfE a b c c)) (hp : ¬ plG (nfE a b c a) (nfE a b c b) (nfE a b c c) < 0) :
    hlS (-(a * c)) (-(b * c)) (plG (nfE a b c a) (nfE a b c b) (nfE a b c c)) = -1 ∧ (plG (nfE a b c a) (nfE a b c b) (nfE a b c c) = 0 ∨
      PrI (plG (nfE a b c a) (nfE a b c b) (nfE a b c c)) ∧ (plG (nfE a b c a) (nfE a b c b) (nfE a b c c) ∣ a * c ∨ plG (nfE a b c a) (nfE a b c b) (nfE a b c c) ∣ b * c)) := by
  rcases plG_place hn hp with ⟨e, h1, h2⟩ | ⟨hq, hd, h2, hno⟩
  · rw [e]
    rw [h.nsign, h.nsign] at h1
    rw [h.nsign, h.nsign] at h2
    exact ⟨(hl_real h.a0 h.b0 h.c0).2.2 ⟨h1, h2⟩, .inl rfl⟩
  · generalize plG (nfE a b c a) (nfE a b c b) (nfE a b c c) = p at *
    obtain ⟨h3, h4⟩ := hl_odd_one h hq h2
    refine ⟨?_, .inr ⟨hq, ?_⟩⟩
    · rcases h3 with h3 | h3
      · exact absurd (h4.1 h3 hd) hno
      · exact h3
    · have k : p ∣ a * b * c := by
        rcases pr_eu hq hd with h5 | h5
        · rcases pr_eu hq h5 with h5 | h5
          · exact ((h.pr p).1 ((h.ndvd h.a0 hq).1 h5).1).2
          · exact ((h.pr p).1 ((h.ndvd h.b0 hq).1 h5).1).2
        · exact ((h.pr p).1 ((h.ndvd h.c0 hq).1 h5).1).2
      rcases pr_eu hq k with h5 | h5
      · rcases pr_eu hq h5 with h5 | h5
        · exact .inl (Int.dvd_mul_of_dvd_left h5)
        · exact .inr (Int.dvd_mul_of_dvd_left h5)
      · exact .inl (Int.dvd_mul_of_dvd_right h5)
end Go.Proofs.Ytdhennlanngjgaa
