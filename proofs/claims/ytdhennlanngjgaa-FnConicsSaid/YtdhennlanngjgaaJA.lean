/- Plain: the normal triple, by the parities of the exponents; the places of a triple. -/
import Derived.Test.YtdhennlanngjgaaSX
import Derived.Test.YtdhennlanngjgaaR1
import Derived.Test.YtdhennlanngjgaaSO
namespace Go.Proofs.Ytdhennlanngjgaa
open Go.RowKit

theorem prims_pw {n : Int} (hn : 1 ≤ n) : (prims n).Pairwise (· < ·) := by
  rw [← prims_eq hn]; exact (foldPut_ok _ [] List.Pairwise.nil).1
def prdI : List Int → Int
  | [] => 1
  | x :: L => x * prdI L
theorem prdI_pos : ∀ L : List Int, (∀ x ∈ L, 1 ≤ x) → 1 ≤ prdI L
  | [], _ => by simp [prdI]
  | x :: L, h => by
    have h1 := h x (by simp)
    have h2 := prdI_pos L (fun y hy => h y (by simp [hy]))
    have := Int.mul_le_mul h1 h2 (by omega) (by omega)
    rw [prdI]; omega
theorem prdI_snoc : ∀ (L : List Int) (y : Int), prdI (L ++ [y]) = prdI L * y
  | [], y => by simp [prdI]
  | x :: L, y => by rw [List.cons_append, prdI, prdI, prdI_snoc L y, Int.mul_assoc]
theorem fac_prd : ∀ (k : Nat) (b : Bool) (p n : Int), 2 ≤ p → 1 ≤ n → prdI (fac k b p n) ≤ n ∧ ∀ x ∈ fac k b p n, 1 ≤ x
  | 0, _, _, _, _, _ => by simp [fac, prdI]; omega
  | k + 1, false, p, n, hp, hn => by
    unfold fac
    split
    · exact fac_prd k true p n hp hn
    · split
      · simp [prdI]; omega
      · simp [prdI]; omega
  | k + 1, true, p, n, hp, hn => by
    unfold fac
    split
    · rename_i h
      obtain ⟨q1, q2⟩ := div_lt hn hp h
      obtain ⟨ih, i2⟩ := fac_prd k true p (n / p) hp q1
      have e := Int.emod_add_mul_ediv n p
      have h3 := Int.mul_le_mul_of_nonneg_left ih (show 0 ≤ p by omega)
      refine ⟨by rw [prdI]; omega, ?_⟩
      intro x hx
      rcases List.mem_cons.1 hx with rfl | hx
      · omega
      · exact i2 x hx
    · exact fac_prd k false (p + 1) n (by omega) hn
theorem addD_prd : ∀ (F P : List Int), (∀ x ∈ F, 1 ≤ x) → (∀ x ∈ P, 1 ≤ x) → prdI (F.foldl addD P) ≤ prdI P * prdI F
  | [], P, _, hP => by simp [prdI]
  | f :: F, P, hF, hP => by
    have hf := hF f (by simp)
    have hp := prdI_pos P hP
    have hFF : ∀ x ∈ F, 1 ≤ x := fun x hx => hF x (by simp [hx])
    have hQ : ∀ x ∈ addD P f, 1 ≤ x := fun x hx => by
      rcases mem_addD.1 hx with h | rfl
      · exact hP x h
      · exact hf
    have h1 : prdI (addD P f) ≤ prdI P * f := by
      unfold addD
      split
      · have := Int.mul_le_mul_of_nonneg_left hf (show 0 ≤ prdI P by omega); omega
      · rw [prdI_snoc]; omega
    have h2 := addD_prd F (addD P f) hFF hQ
    have h3 := Int.mul_le_mul_of_nonneg_right h1 (show 0 ≤ prdI F by have := prdI_pos F hFF; omega)
    rw [List.foldl_cons, prdI, ← Int.mul_assoc]; omega
theorem prims_prd {n : Int} (hn : 1 ≤ n) : prdI (prims n) ≤ n := by
  obtain ⟨h1, h2⟩ := fac_prd (4 * n + 20000).toNat false 2 n (by omega) hn
  have h3 := addD_prd (facL n) [] h2 (by simp)
  unfold prims
  have h4 : prdI (facL n) ≤ n := h1
  rw [prdI, Int.one_mul] at h3
  omega
theorem prdI_take : ∀ (L : List Int) (k : Nat), (∀ x ∈ L, 1 ≤ x) → prdI (L.take k) ≤ prdI L
  | [], k, _ => by simp
  | x :: L, 0, h => by have := prdI_pos (x :: L) h; simpa [prdI] using this
  | x :: L, k + 1, h => by
    have h2 := prdI_take L k (fun y hy => h y (by simp [hy]))
    have h1 := h x (by simp)
    rw [List.take_succ_cons, prdI, prdI]
    exact Int.mul_le_mul_of_nonneg_left h2 (by omega)

/-- The parity of an exponent. -/
def odE (p x : Int) : Int := expo p (x.natAbs : Int) % 2
theorem odE_two (p x : Int) : odE p x = 0 ∨ odE p x = 1 := by unfold odE; omega
def mnE (a b c p : Int) : Int := odE p a + odE p b + odE p c
def cdE (a b c x p : Int) : Bool := decide (mnE a b c p = 1 ∧ odE p x = 1 ∨ mnE a b c p = 2 ∧ odE p x = 0)
def nfS (a b c x r p : Int) : Int := if cdE a b c x p = true then r * p else r
def nfL (a b c x : Int) (L : List Int) : Int := L.foldl (nfS a b c x) x.sign
def prT (a b c : Int) : List Int := prims ((a * b * c).natAbs : Int)
def nfE (a b c x : Int) : Int := nfL a b c x (prT a b c)
theorem nfL_next {a b c x : Int} {L : List Int} {k : Nat} (h : k < L.length) : nfL a b c x (L.take (k + 1)) = nfS a b c x (nfL a b c x (L.take k)) L[k] := by
  unfold nfL; rw [List.take_succ_eq_append_getElem h, List.foldl_append]; rfl
theorem sign_abs {x : Int} (h : x ≠ 0) : x.sign = 1 ∨ x.sign = -1 := by
  rcases Int.lt_or_gt_of_ne h with h | h
  · exact .inr (Int.sign_eq_neg_one_of_neg h)
  · exact .inl (Int.sign_eq_one_of_pos h)
theorem nfold_bd (a b c x : Int) : ∀ (L : List Int) (s : Int), (∀ p ∈ L, 1 ≤ p) → ((L.foldl (nfS a b c x) s).natAbs : Int) ≤ (s.natAbs : Int) * prdI L
  | [], s, _ => by simp [prdI]
  | p :: L, s, h => by
    have hp := h p (by simp)
    have hL : ∀ q ∈ L, 1 ≤ q := fun q hq => h q (by simp [hq])
    have ih := nfold_bd a b c x L (nfS a b c x s p) hL
    have hq := prdI_pos L hL
    have h1 : ((nfS a b c x s p).natAbs : Int) ≤ (s.natAbs : Int) * p := by
      unfold nfS
      split
      · rw [Int.natAbs_mul, Int.natCast_mul, show (p.natAbs : Int) = p by omega]; exact Int.le_refl _
      · have := Int.mul_le_mul_of_nonneg_left hp (show (0 : Int) ≤ (s.natAbs : Int) by omega); omega
    have h3 := Int.mul_le_mul_of_nonneg_right h1 (show 0 ≤ prdI L by omega)
    rw [List.foldl_cons, prdI, ← Int.mul_assoc]; omega
theorem nfold_sign (a b c x : Int) : ∀ (L : List Int) (s : Int), (∀ p ∈ L, 1 ≤ p) → (L.foldl (nfS a b c x) s).sign = s.sign
  | [], s, _ => rfl
  | p :: L, s, h => by
    have hp := h p (by simp)
    rw [List.foldl_cons, nfold_sign a b c x L _ (fun q hq => h q (by simp [hq]))]
    unfold nfS
    split
    · rw [Int.sign_mul, Int.sign_eq_one_of_pos (show 0 < p by omega), Int.mul_one]
    · rfl
theorem sign_sign (x : Int) : x.sign.sign = x.sign := by
  rcases Int.lt_trichotomy x 0 with h | h | h
  · rw [Int.sign_eq_neg_one_of_neg h]; rfl
  · rw [h]; rfl
  · rw [Int.sign_eq_one_of_pos h]; rfl
theorem sign_zero {x : Int} (h : x.sign = 0) : x = 0 := Int.sign_eq_zero_iff_zero.1 h
/-- A triple in range, with its primes. -/
structure TrI (a b c : Int) : Prop where
  a0 : a ≠ 0
  a1 : -400 ≤ a ∧ a ≤ 400
  b0 : b ≠ 0
  b1 : -400 ≤ b ∧ b ≤ 400
  c0 : c ≠ 0
  c1 : -400 ≤ c ∧ c ≤ 400
theorem TrI.prod {a b c : Int} (h : TrI a b c) : 1 ≤ ((a * b * c).natAbs : Int) ∧ ((a * b * c).natAbs : Int) ≤ 64000000 := by
  obtain ⟨a0, a1, b0, b1, c0, c1⟩ := h
  have h1 : a * b * c ≠ 0 := Int.mul_ne_zero (Int.mul_ne_zero a0 b0) c0
  have e : (a * b * c).natAbs = a.natAbs * b.natAbs * c.natAbs := by rw [Int.natAbs_mul, Int.natAbs_mul]
  have h2 : a.natAbs * b.natAbs ≤ 400 * 400 := Nat.mul_le_mul (by omega) (by omega)
  have h3 : a.natAbs * b.natAbs * c.natAbs ≤ (400 * 400) * 400 := Nat.mul_le_mul h2 (by omega)
  omega
theorem TrI.pr {a b c : Int} (h : TrI a b c) (x : Int) : x ∈ prT a b c ↔ PrI x ∧ x ∣ a * b * c := by
  obtain ⟨h1, h2⟩ := h.prod
  unfold prT
  rw [mem_prims h1 h2, Int.dvd_natAbs]
theorem TrI.ge {a b c : Int} (h : TrI a b c) : ∀ x ∈ prT a b c, 2 ≤ x := fun x hx => ((h.pr x).1 hx).1.1
theorem TrI.len {a b c : Int} (h : TrI a b c) : (prT a b c).length ≤ 100 := by
  have h1 := fold_len (facL ((a * b * c).natAbs : Int)) []
  have h2 := facL_len ((a * b * c).natAbs : Int) h.prod.2
  unfold prT prims; simp at h1; omega
theorem TrI.take_bd {a b c : Int} (h : TrI a b c) {x : Int} (hx : x ≠ 0) (k : Nat) : -64000000 ≤ nfL a b c x ((prT a b c).take k) ∧ nfL a b c x ((prT a b c).take k) ≤ 64000000 := by
  have h0 : ∀ p ∈ prT a b c, 1 ≤ p := fun p hp => by have := h.ge p hp; omega
  have h1 := nfold_bd a b c x ((prT a b c).take k) x.sign (fun p hp => h0 p (List.mem_of_mem_take hp))
  have h2 := prdI_take (prT a b c) k h0
  have h3 := prims_prd h.prod.1
  have h4 : (x.sign.natAbs : Int) = 1 := by rcases sign_abs hx with e | e <;> rw [e] <;> rfl
  rw [h4, Int.one_mul] at h1
  have h5 := h.prod.2
  unfold prT at *
  unfold nfL
  omega
theorem TrI.all_bd {a b c : Int} (h : TrI a b c) {x : Int} (hx : x ≠ 0) : -64000000 ≤ nfE a b c x ∧ nfE a b c x ≤ 64000000 := by
  have := h.take_bd hx (prT a b c).length
  rwa [List.take_length] at this
theorem TrI.nsign {a b c : Int} (h : TrI a b c) {x : Int} : (nfE a b c x).sign = x.sign := by
  unfold nfE nfL
  rw [nfold_sign a b c x _ _ (fun p hp => by have := h.ge p hp; omega), sign_sign]
theorem TrI.nne {a b c : Int} (h : TrI a b c) {x : Int} (hx : x ≠ 0) : nfE a b c x ≠ 0 := fun e => by
  have := h.nsign (x := x)
  rw [e] at this
  exact hx (sign_zero this.symm)
theorem pr_eu {q a b : Int} (hq : PrI q) (h : q ∣ a * b) : q ∣ a ∨ q ∣ b := by
  have hp := prI_nat hq
  have e : (q.toNat : Int) = q := by have := hq.1; omega
  have h1 : q.toNat ∣ a.natAbs * b.natAbs := by
    rw [← Int.natAbs_mul]
    exact Int.ofNat_dvd_left.1 (by rw [e]; exact h)
  rcases hp.2 _ (Nat.gcd_dvd_left q.toNat a.natAbs) with hg | hg
  · right
    have := Int.ofNat_dvd_left.2 (Nat.Coprime.dvd_of_dvd_mul_left hg h1)
    rwa [e] at this
  · left
    have := Int.ofNat_dvd_left.2 (hg ▸ Nat.gcd_dvd_right q.toNat a.natAbs)
    rwa [e] at this
theorem pr_same {q p : Int} (hq : PrI q) (hp : PrI p) (h : q ∣ p) : q = p := by
  have h1 := Int.le_of_dvd (by have := hp.1; omega) h
  refine Classical.byContradiction fun hne => ?_
  exact hp.2 q hq.1 (by omega) h
theorem nfold_dvd {a b c x q : Int} (hq : PrI q) : ∀ (L : List Int) (s : Int), (∀ p ∈ L, PrI p) → (q ∣ L.foldl (nfS a b c x) s ↔ q ∣ s ∨ (q ∈ L ∧ cdE a b c x q = true))
  | [], s, _ => by simp
  | p :: L, s, h => by
    rw [List.foldl_cons, nfold_dvd hq L _ (fun r hr => h r (by simp [hr]))]
    have hp := h p (by simp)
    have e : q ∣ nfS a b c x s p ↔ q ∣ s ∨ (q = p ∧ cdE a b c x q = true) := by
      unfold nfS
      split
      · rename_i hc
        constructor
        · intro hd
          rcases pr_eu hq hd with h1 | h1
          · exact .inl h1
          · have e := pr_same hq hp h1
            exact .inr ⟨e, by rw [e]; exact hc⟩
        · rintro (h1 | ⟨e, _⟩)
          · exact Int.dvd_mul_of_dvd_left h1
          · rw [e]; exact Int.dvd_mul_left _ _
      · rename_i hc
        constructor
        · exact .inl
        · rintro (h1 | ⟨e, h2⟩)
          · exact h1
          · rw [e] at h2; exact absurd h2 hc
    rw [e, List.mem_cons]
    constructor
    · rintro ((h1 | ⟨h1, h2⟩) | ⟨h1, h2⟩)
      · exact .inl h1
      · exact .inr ⟨.inl h1, h2⟩
      · exact .inr ⟨.inr h1, h2⟩
    · rintro (h1 | ⟨h1 | h1, h2⟩)
      · exact .inl (.inl h1)
      · exact .inl (.inr ⟨h1, h2⟩)
      · exact .inr ⟨h1, h2⟩
theorem TrI.ndvd {a b c : Int} (h : TrI a b c) {x q : Int} (hx : x ≠ 0) (hq : PrI q) : q ∣ nfE a b c x ↔ q ∈ prT a b c ∧ cdE a b c x q = true := by
  unfold nfE nfL
  rw [nfold_dvd hq _ _ (fun p hp => ((h.pr p).1 hp).1)]
  constructor
  · rintro (h1 | h1)
    · exfalso
      have h2 : q ∣ 1 := by
        rcases sign_abs hx with e | e
        · rwa [e] at h1
        · rw [e] at h1; exact (Int.dvd_neg).1 h1
      have := Int.le_of_dvd (by omega) h2
      have := hq.1
      omega
    · exact h1
  · exact .inr
/-- A prime divides just one number of the normal triple. -/
theorem TrI.one {a b c : Int} (h : TrI a b c) {q : Int} (hq : PrI q) (hd : q ∣ nfE a b c a * nfE a b c b * nfE a b c c) :
    (q ∣ nfE a b c a ∧ ¬ q ∣ nfE a b c b ∧ ¬ q ∣ nfE a b c c) ∨ (¬ q ∣ nfE a b c a ∧ q ∣ nfE a b c b ∧ ¬ q ∣ nfE a b c c) ∨ (¬ q ∣ nfE a b c a ∧ ¬ q ∣ nfE a b c b ∧ q ∣ nfE a b c c) := by
  have h3 : q ∣ nfE a b c a ∨ q ∣ nfE a b c b ∨ q ∣ nfE a b c c := by
    rcases pr_eu hq hd with h1 | h1
    · rcases pr_eu hq h1 with h1 | h1
      · exact .inl h1
      · exact .inr (.inl h1)
    · exact .inr (.inr h1)
  have e1 := h.ndvd h.a0 hq
  have e2 := h.ndvd h.b0 hq
  have e3 := h.ndvd h.c0 hq
  have oa := odE_two q a; have ob := odE_two q b; have oc := odE_two q c
  have k : ∀ x, cdE a b c x q = true ↔ (odE q a + odE q b + odE q c = 1 ∧ odE q x = 1 ∨ odE q a + odE q b + odE q c = 2 ∧ odE q x = 0) := fun x => by
    unfold cdE mnE; rw [decide_eq_true_eq]
  rw [k] at e1 e2 e3
  rw [e1, e2, e3] at h3 ⊢
  by_cases hm : q ∈ prT a b c
  · simp only [hm, true_and] at h3 ⊢
    clear e1 e2 e3 k hd hm
    generalize odE q a = x at *
    generalize odE q b = y at *
    generalize odE q c = z at *
    rcases oa with rfl | rfl <;> rcases ob with rfl | rfl <;> rcases oc with rfl | rfl <;> simp at h3 ⊢
  · simp [hm] at h3
/-- The places behind the real one and two. -/
def odP (L : List Int) : List Int := L.filter fun p => decide (2 < p)
theorem TrI.fold_two {a b c : Int} (h : TrI a b c) (x : Int) : nfL a b c x (2 :: odP (prT a b c)) = nfE a b c x := by
  have hw := prims_pw h.prod.1
  have hg := h.ge
  have hm := h.pr
  by_cases h2 : (2 : Int) ∈ prT a b c
  · have e : 2 :: odP (prT a b c) = prT a b c := by
      refine sorted_uniq _ _ ?_ hw (fun y => ?_)
      · rw [List.pairwise_cons]
        refine ⟨fun y hy => ?_, hw.filter _⟩
        have := (List.mem_filter.1 hy).2
        simpa using this
      · rw [List.mem_cons]
        unfold odP
        rw [List.mem_filter, decide_eq_true_eq]
        constructor
        · rintro (rfl | h1)
          · exact h2
          · exact h1.1
        · intro hy
          have := hg y hy
          by_cases e : y = 2
          · exact .inl e
          · exact .inr ⟨hy, by omega⟩
    rw [e]; rfl
  · have e : odP (prT a b c) = prT a b c := by
      unfold odP
      rw [List.filter_eq_self]
      intro y hy
      have := hg y hy
      have : y ≠ 2 := fun e => h2 (e ▸ hy)
      simp; omega
    rw [e]
    unfold nfE nfL
    rw [List.foldl_cons]
    have hno : ∀ z, z ∣ a * b * c → odE 2 z = 0 := fun z hz => by
      have h5 : ¬ (2 : Int) ∣ z := fun hd => h2 ((hm 2).2 ⟨⟨by omega, fun q h1 h2 _ => by omega⟩, Int.dvd_trans hd hz⟩)
      unfold odE expo
      rw [expG_no (by omega)]
      rfl
    have e1 : nfS a b c x x.sign 2 = x.sign := by
      unfold nfS cdE mnE
      rw [hno a (Int.dvd_mul_of_dvd_left (Int.dvd_mul_right _ _)), hno b (Int.dvd_mul_of_dvd_left (Int.dvd_mul_left _ _)), hno c (Int.dvd_mul_left _ _)]
      simp
    rw [e1]
/-- The numbers of the triple stay in range while the places are gone through. -/
theorem TrI.take_two {a b c : Int} (h : TrI a b c) {x : Int} (hx : x ≠ 0) (k : Nat) : -128000000 ≤ nfL a b c x ((2 :: odP (prT a b c)).take k) ∧ nfL a b c x ((2 :: odP (prT a b c)).take k) ≤ 128000000 := by
  have hg := h.ge
  have h0 : ∀ p ∈ 2 :: odP (prT a b c), 1 ≤ p := fun p hp => by
    rcases List.mem_cons.1 hp with rfl | hp
    · omega
    · have := hg p (List.mem_filter.1 hp).1; omega
  have h1 := nfold_bd a b c x ((2 :: odP (prT a b c)).take k) x.sign (fun p hp => h0 p (List.mem_of_mem_take hp))
  have h2 := prdI_take (2 :: odP (prT a b c)) k h0
  have h3 := prims_prd h.prod.1
  have h4 : (x.sign.natAbs : Int) = 1 := by rcases sign_abs hx with e | e <;> rw [e] <;> rfl
  have h6 : ∀ L : List Int, (∀ p ∈ L, 1 ≤ p) → prdI (odP L) ≤ prdI L := by
    intro L
    induction L with
    | nil => intro _; exact Int.le_refl _
    | cons y L ih =>
      intro hL
      have i1 := ih (fun p hp => hL p (by simp [hp]))
      have i2 := hL y (by simp)
      have i3 := prdI_pos L (fun p hp => hL p (by simp [hp]))
      unfold odP at *
      rw [List.filter_cons]
      split
      · rw [prdI, prdI]; exact Int.mul_le_mul_of_nonneg_left i1 (by omega)
      · rw [prdI]
        have := Int.mul_le_mul_of_nonneg_right i2 (show 0 ≤ prdI L by omega)
        omega
  have h7 := h6 (prT a b c) (fun p hp => by have := hg p hp; omega)
  rw [h4, Int.one_mul] at h1
  have h5 := h.prod.2
  rw [show prdI (2 :: odP (prT a b c)) = 2 * prdI (odP (prT a b c)) from rfl] at h2
  unfold prT at *
  unfold nfL
  omega
/-- The places are those that the numbers have, with the real one and two. -/
theorem TrI.places {a b c : Int} (h : TrI a b c) {K : List Int} (hK : K.Pairwise (· < ·)) (hm : ∀ x, x ∈ K ↔ (x = 0 ∨ x = 2) ∨ x ∈ prims (a.natAbs : Int) ∨ x ∈ prims (b.natAbs : Int) ∨ x ∈ prims (c.natAbs : Int)) :
    K = 0 :: 2 :: odP (prT a b c) := by
  have hw := prims_pw h.prod.1
  refine sorted_uniq _ _ hK ?_ (fun y => ?_)
  · rw [List.pairwise_cons, List.pairwise_cons]
    refine ⟨fun y hy => ?_, fun y hy => ?_, hw.filter _⟩
    · rcases List.mem_cons.1 hy with rfl | hy
      · omega
      · have := (List.mem_filter.1 hy).2
        simp at this; omega
    · have := (List.mem_filter.1 hy).2
      simpa using this
  · rw [hm, List.mem_cons, List.mem_cons]
    unfold odP
    rw [List.mem_filter, decide_eq_true_eq, h.pr]
    obtain ⟨a0, a1, b0, b1, c0, c1⟩ := h
    rw [mem_prims (by omega) (by omega), mem_prims (by omega) (by omega), mem_prims (by omega) (by omega), Int.dvd_natAbs, Int.dvd_natAbs, Int.dvd_natAbs]
    constructor
    · rintro ((rfl | rfl) | h1)
      · exact .inl rfl
      · exact .inr (.inl rfl)
      · have hp : PrI y ∧ y ∣ a * b * c := by
          rcases h1 with ⟨h1, h2⟩ | ⟨h1, h2⟩ | ⟨h1, h2⟩
          · exact ⟨h1, Int.dvd_mul_of_dvd_left (Int.dvd_mul_of_dvd_left h2)⟩
          · exact ⟨h1, Int.dvd_mul_of_dvd_left (Int.dvd_mul_of_dvd_right h2)⟩
          · exact ⟨h1, Int.dvd_mul_of_dvd_right h2⟩
        by_cases e : y = 2
        · exact .inr (.inl e)
        · exact .inr (.inr ⟨hp, by have := hp.1.1; omega⟩)
    · rintro (rfl | rfl | ⟨⟨h1, h2⟩, _⟩)
      · exact .inl (.inl rfl)
      · exact .inl (.inr rfl)
      · rcases pr_eu h1 h2 with h3 | h3
        · rcases pr_eu h1 h3 with h3 | h3
          · exact .inr (.inl ⟨h1, h3⟩)
          · exact .inr (.inr (.inl ⟨h1, h3⟩))
        · exact .inr (.inr (.inr ⟨h1, h3⟩))

/-- Whether there is a root modulo p. -/
def rtB (p k : Int) : Bool := (List.range p.toNat).any fun r => decide (((r : Int) * r + k) % p = 0)
/-- The product of the two that p does not divide. -/
def kkE (a b c p : Int) : Int := if a % p = 0 then b * c else if b % p = 0 then a * c else a * b
/-- The place that forbids, or -1. -/
def plE (a b c : Int) (L : List Int) : Int := ((L.find? fun p => !rtB p (kkE a b c p))).getD (-1)
def plF (a b c : Int) : Int := if a.sign = b.sign ∧ a.sign = c.sign then 0 else plE (nfE a b c a) (nfE a b c b) (nfE a b c c) (odP (prT (nfE a b c a) (nfE a b c b) (nfE a b c c)))
end Go.Proofs.Ytdhennlanngjgaa
