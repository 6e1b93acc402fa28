/- Parts SE SJ laid together by tp.py. -/
import Derived.Test.YtkkamlhpappebaaSX
namespace Go.Proofs.Ytkkamlhpappebaa
section
open Go.RowKit

/-- The next place: one that is there is multiplied. -/
theorem bumpL_set : ∀ (out : List Int) (i : Nat) (p : Int) (h : i < (bumpL out i p).length), bumpL out (i + 1) p = (bumpL out i p).set i ((bumpL out i p)[i] * p)
  | [], i, p, h => by
    rw [bumpL_len] at h; simp at h
  | x :: out, 0, p, h => by simp [bumpL]
  | x :: out, i + 1, p, h => by
    have ih := bumpL_set out i p (by simpa [bumpL] using h)
    rw [bumpL, ih]
    simp [bumpL]
/-- The next place: one that is lacking is made. -/
theorem bumpL_new : ∀ (out : List Int) (i : Nat) (p : Int), (bumpL out i p).length = i → bumpL out (i + 1) p = bumpL out i p ++ [p]
  | [], 0, p, _ => by simp [bumpL]
  | [], i + 1, p, h => by
    have ih := bumpL_new [] i p (by simpa [bumpL] using h)
    have e : ∀ k, bumpL [] (k + 1) p = p :: bumpL [] k p := fun _ => rfl
    have e2 := e i
    rw [ih] at e2
    rw [e (i + 1), ih]
    exact congrArg (· ++ [p]) e2.symm
  | x :: out, 0, p, h => by rw [bumpL_len] at h; simp at h
  | x :: out, i + 1, p, h => by
    have ih := bumpL_new out i p (by simpa [bumpL] using h)
    rw [bumpL, ih]
    simp [bumpL]
/-- Ones first, then the products. -/
theorem bumpL_pad : ∀ (out : List Int) (k : Nat) (p : Int), bumpL (out ++ List.replicate (k - out.length) 1) k p = bumpL out k p
  | out, 0, p => by simp
  | [], k + 1, p => by
    have ih := bumpL_pad [] k p
    simp [List.replicate_succ, bumpL] at ih ⊢
    exact ih
  | x :: out, k + 1, p => by
    have ih := bumpL_pad out k p
    simp [bumpL] at ih ⊢
    exact ih
/-- The list with its first and last places changed, l of them at either end. -/
def rvL (X : List Int) (l : Nat) : List Int := (List.range X.length).map fun t => if t < l ∨ X.length ≤ t + l then X.getD (X.length - 1 - t) 0 else X.getD t 0
theorem rvL_len (X : List Int) (l : Nat) : (rvL X l).length = X.length := by simp [rvL]
theorem rvL_get (X : List Int) (l t : Nat) (h : t < (rvL X l).length) : (rvL X l)[t] = if t < l ∨ X.length ≤ t + l then X.getD (X.length - 1 - t) 0 else X.getD t 0 := by
  simp [rvL]
theorem rvL_zero (X : List Int) : rvL X 0 = X := by
  refine List.ext_getElem (rvL_len _ _) fun t h1 h2 => ?_
  rw [rvL_get, if_neg (by omega)]
  simp [List.getD_eq_getElem?_getD, h2]
theorem rvL_full (X : List Int) (l : Nat) (h : X.length ≤ 2 * l + 1) : rvL X l = X.reverse := by
  refine List.ext_getElem (by rw [rvL_len]; simp) fun t h1 h2 => ?_
  have h3 : t < X.length := by simpa using h2
  rw [rvL_get, List.getElem_reverse]
  split
  · simp [List.getD_eq_getElem?_getD, show X.length - 1 - t < X.length by omega]
  · have e : X.length - 1 - t = t := by omega
    simp [List.getD_eq_getElem?_getD, h3, e]
theorem rvL_next (X : List Int) (l r : Nat) (a b : Int) (hlt : l < r) (h : l + r + 1 = X.length) (ha : (rvL X l)[l]? = some a) (hb : (rvL X l)[r]? = some b) :
    ((rvL X l).set l b).set r a = rvL X (l + 1) := by
  obtain ⟨h4, h5⟩ := List.getElem?_eq_some_iff.1 ha
  obtain ⟨h6, h7⟩ := List.getElem?_eq_some_iff.1 hb
  rw [rvL_get, if_neg (by omega)] at h5
  rw [rvL_get, if_neg (by omega)] at h7
  refine List.ext_getElem (by simp [rvL_len]) fun t h1 h2 => ?_
  have h3 : t < X.length := by simpa [rvL_len] using h2
  rw [List.getElem_set, List.getElem_set, rvL_get, rvL_get X (l + 1)]
  by_cases e1 : r = t
  · rw [if_pos e1, if_pos (by omega), show X.length - 1 - t = l by omega, h5]
  · rw [if_neg e1]
    by_cases e2 : l = t
    · rw [if_pos e2, if_pos (by omega), show X.length - 1 - t = r by omega, h7]
    · rw [if_neg e2]
      by_cases e3 : t < l ∨ X.length ≤ t + l
      · rw [if_pos e3, if_pos (by omega)]
      · rw [if_neg e3, if_neg (by omega)]

/-- The exponent of p in m. -/
noncomputable def exE (m p : Nat) : Nat := open Classical in if h : ∃ e r, m = p ^ e * r ∧ Nat.Coprime p r then Classical.choose h else 0
theorem exE_ok {m p : Nat} (hp : Ab.PrN p) (hm : 0 < m) : ∃ r, m = p ^ exE m p * r ∧ Nat.Coprime p r := by
  have h := Ab.part_ex hp m hm
  unfold exE
  rw [dif_pos h]
  exact Classical.choose_spec h
noncomputable def facE (d : Int) (out : List Int) (p : Int) : List Int := facP d p.toNat out (exE (clsL d).length p.toNat)
/-- The factors, the greatest one first. -/
noncomputable def invL (d : Int) : List Int := (prims (clsL d).length).foldl (facE d) []
/-- What the loops ask of a prime that divides the number of classes. -/
structure PF (d : Int) (m p e r : Nat) : Prop where
  p2 : 2 ≤ p
  pm : p ≤ m
  m1 : m ≤ 1640
  mm : m = p ^ e * r
  r1 : 1 ≤ r
  rp : ¬ p ∣ r
  pw : ∀ j, j ≤ e → 1 ≤ p ^ j ∧ p ^ j ≤ m
  c0 : cntO d (p ^ 0) = 1
  c1 : ∀ j, 1 ≤ cntO d (p ^ j) ∧ cntO d (p ^ j) ≤ m
  lt : ∀ j, cntO d (p ^ j) < p ^ e → j < e
  st : ∀ j out, j ≤ e → ¬ cntO d (p ^ j) < p ^ e → facP d p out j = facP d p out e
  q1 : ∀ j, 1 ≤ (cntO d (p ^ (j + 1)) : Int) / (cntO d (p ^ j) : Int) ∧ (cntO d (p ^ (j + 1)) : Int) / (cntO d (p ^ j) : Int) ≤ m
  md : ∀ j, m % p ^ (j + 1) = 0 ↔ j < e
  rk : ∀ j, (expo p ((cntO d (p ^ (j + 1)) : Int) / (cntO d (p ^ j) : Int)) = (rkP d p j : Int)) ∧ rkP d p j ≤ 2000
theorem pf_of {d : Int} (D : Dsc d) {x : Int} (hx : x ∈ prims (clsL d).length) : ∃ r, PF d (clsL d).length x.toNat (exE (clsL d).length x.toNat) r ∧ (x.toNat : Int) = x := by
  have hm0 : 0 < (clsL d).length := List.length_pos_of_mem D.one
  have hm1 := clsL_len d
  obtain ⟨h1, h2⟩ := (mem_prims (by omega) (by omega)).1 hx
  have hx0 : (x.toNat : Int) = x := Int.toNat_of_nonneg (by have := h1.1; omega)
  have hp := prI_nat h1
  have hxm : x.toNat ≤ (clsL d).length := by
    have := Int.le_of_dvd (by omega) h2
    omega
  generalize x.toNat = p at *
  obtain ⟨r, hm, hc⟩ := exE_ok hp hm0
  generalize exE (clsL d).length p = e at *
  have hp2 := hp.1
  have hpp := fun n => Nat.pow_pos (n := n) (show 0 < p by omega)
  have hr : 0 < r := Nat.pos_of_ne_zero (fun h0 => by subst h0; rw [Nat.mul_zero] at hm; omega)
  have hrp : ¬ p ∣ r := fun hd => by
    have h3 := Nat.dvd_gcd (Nat.dvd_refl p) hd
    rw [hc] at h3
    have := Nat.le_of_dvd (by omega) h3
    omega
  have hc1 : ∀ j, 1 ≤ cntO d (p ^ j) ∧ cntO d (p ^ j) ≤ (clsL d).length := fun j => ⟨cnt_pos D _, List.length_filter_le _ _⟩
  have hq1 : ∀ j, 1 ≤ (cntO d (p ^ (j + 1)) : Int) / (cntO d (p ^ j) : Int) ∧ (cntO d (p ^ (j + 1)) : Int) / (cntO d (p ^ j) : Int) ≤ (clsL d).length := fun j => by
    have a := hc1 j
    have b := hc1 (j + 1)
    have c := Nat.le_of_dvd (by omega) (cnt_dvd D (Nat.pow_dvd_pow p (show j ≤ j + 1 by omega)))
    generalize cntO d (p ^ j) = u at *
    generalize cntO d (p ^ (j + 1)) = v at *
    have e1 : ((v : Int) / (u : Int)) = ((v / u : Nat) : Int) := (Int.natCast_ediv v u).symm
    rw [e1]
    have e2 : 1 ≤ v / u := (Nat.one_le_div_iff (by omega)).2 c
    have e3 := Nat.div_le_self v u
    omega
  refine ⟨r, ⟨hp2, hxm, hm1, hm, hr, hrp, fun j hj => ⟨hpp j, ?_⟩, (by rw [Nat.pow_zero]; exact cnt_one D), hc1, fun j hj => cnt_lt D hp hr hm hc hj, fun j out hj hl => ?_, hq1, fun j => ?_, fun j => ?_⟩, hx0⟩
  · refine Nat.le_trans (Nat.pow_le_pow_right (by omega) hj) ?_
    rw [hm]
    exact Nat.le_mul_of_pos_right _ hr
  · have h3 := cnt_le D hp hr hm hc hj
    obtain ⟨t, rfl⟩ : ∃ t, e = j + t := ⟨e - j, by omega⟩
    exact (facP_stop D out hp hr hm hc (by omega) t (Nat.le_refl _)).symm
  · constructor
    · intro h
      apply Nat.not_le.1
      intro hl
      obtain ⟨t, rfl⟩ : ∃ t, j = e + t := ⟨j - e, by omega⟩
      have h3 : p ^ (e + 1) ∣ p ^ e * r := by
        rw [← hm]
        exact Nat.dvd_trans (Nat.pow_dvd_pow p (by omega)) (Nat.dvd_of_mod_eq_zero h)
      rw [Nat.pow_succ] at h3
      exact hrp (Nat.dvd_of_mul_dvd_mul_left (hpp e) h3)
    · intro h
      refine Nat.mod_eq_zero_of_dvd ?_
      rw [hm]
      exact Nat.dvd_trans (Nat.pow_dvd_pow p (by omega)) (Nat.dvd_mul_right _ _)
  · have a := expG_bd ((((cntO d (p ^ (j + 1)) : Int) / (cntO d (p ^ j) : Int))).toNat + 1) p ((cntO d (p ^ (j + 1)) : Int) / (cntO d (p ^ j) : Int))
    have b := hq1 j
    unfold rkP expo
    omega
theorem prims_sasc {n : Int} (hn : 1 ≤ n) : SAsc (prims n) := by
  have := (fac_ge (4 * n + 20000).toNat false 2 n (by omega) hn (fun q h1 h2 _ => by omega)).2
  exact (fold_eq (facL n) [] this (by simp) trivial).2
theorem bump_bd {M p : Int} (hM : 1 ≤ M) (hp : 1 ≤ p) : ∀ (out : List Int) (i : Nat), (∀ y ∈ out, 1 ≤ y ∧ y ≤ M) → ∀ y ∈ bumpL out i p, 1 ≤ y ∧ y ≤ M * p
  | out, 0, h, y, hy => by
    rw [bumpL_zero] at hy
    have h1 := h y hy
    have : M * 1 ≤ M * p := Int.mul_le_mul_of_nonneg_left hp (by omega)
    omega
  | [], i + 1, h, y, hy => by
    rw [bumpL, List.mem_cons] at hy
    rcases hy with rfl | hy
    · have : 1 * y ≤ M * y := Int.mul_le_mul_of_nonneg_right hM (by omega)
      omega
    · exact bump_bd hM hp [] i h y hy
  | x :: out, i + 1, h, y, hy => by
    rw [bumpL, List.mem_cons] at hy
    rcases hy with rfl | hy
    · obtain ⟨h1, h2⟩ := h x (by simp)
      have a : x * p ≤ M * p := Int.mul_le_mul_of_nonneg_right h2 (by omega)
      have b : 1 * 1 ≤ x * p := Int.mul_le_mul h1 hp (by omega) (by omega)
      omega
    · exact bump_bd hM hp out i (fun z hz => h z (by simp [hz])) y hy
theorem facP_bd {d : Int} {M p : Nat} (hM : 1 ≤ M) (hp : 1 ≤ p) (out : List Int) (h : ∀ y ∈ out, 1 ≤ y ∧ y ≤ (M : Int)) : ∀ j, ∀ y ∈ facP d p out j, 1 ≤ y ∧ y ≤ ((M * p ^ j : Nat) : Int)
  | 0, y, hy => by
    have := h y hy
    simpa using this
  | j + 1, y, hy => by
    rw [facP] at hy
    have := bump_bd (M := ((M * p ^ j : Nat) : Int)) (p := p) (by have := Nat.mul_pos hM (Nat.pow_pos (n := j) (show 0 < p by omega)); omega) (by omega) _ _ (facP_bd hM hp out h j) y hy
    rw [Nat.pow_succ, ← Nat.mul_assoc, Int.natCast_mul]
    exact this
theorem pr_cop {p q : Nat} (hp : Ab.PrN p) (hq : Ab.PrN q) (h : p < q) : Nat.Coprime p q := by
  have h1 := Nat.gcd_dvd_left p q
  have h2 := Nat.gcd_dvd_right p q
  have := hp.1
  rcases hp.2 _ h1 with e | e
  · exact e
  · rw [e] at h2
    rcases hq.2 _ h2 with e2 | e2 <;> omega
/-- The numbers in the list stay small. -/
theorem inv_bd {d : Int} (D : Dsc d) : ∀ (F : List Int) (out : List Int) (M : Nat), (∀ x ∈ F, x ∈ prims (clsL d).length) → SAsc F → M ∣ (clsL d).length → 1 ≤ M → (∀ x ∈ F, Nat.Coprime M x.toNat) → (∀ y ∈ out, 1 ≤ y ∧ y ≤ (M : Int)) →
    ∀ k (h : k < F.length) j i, j < exE (clsL d).length F[k].toNat → ∀ y ∈ bumpL (facP d F[k].toNat ((F.take k).foldl (facE d) out) j) i F[k].toNat, 1 ≤ y ∧ y ≤ 1640
  | [], _, _, _, _, _, _, _, _, k, h, _, _, _, _, _ => by simp at h
  | x :: F, out, M, hF, hs, hM, hM1, hc, ho, k, h, j, i, hj, y, hy => by
    have hm0 : 0 < (clsL d).length := List.length_pos_of_mem D.one
    have hm1 := clsL_len d
    have hpr : ∀ z ∈ x :: F, Ab.PrN z.toNat := fun z hz => prI_nat ((mem_prims (by omega) (by omega)).1 (hF z hz)).1
    obtain ⟨r, hr, _⟩ := exE_ok (hpr x (by simp)) hm0
    have hp1 : 1 ≤ x.toNat := by have := (hpr x (by simp)).1; omega
    have hd : M * x.toNat ^ exE (clsL d).length x.toNat ∣ (clsL d).length := Nat.Coprime.mul_dvd_of_dvd_of_dvd (Nat.Coprime.pow_right _ (hc x (by simp))) hM ⟨r, hr⟩
    have hle := Nat.le_of_dvd hm0 hd
    cases k with
    | zero =>
      have e : bumpL (facP d (x :: F)[0].toNat (((x :: F).take 0).foldl (facE d) out) j) i (x :: F)[0].toNat = bumpL (facP d x.toNat out j) i x.toNat := rfl
      rw [e] at hy
      have hj2 : j < exE (clsL d).length x.toNat := hj
      have a := bump_bd (M := ((M * x.toNat ^ j : Nat) : Int)) (p := x.toNat) (by have := Nat.mul_pos hM1 (Nat.pow_pos (n := j) (show 0 < x.toNat by omega)); omega) (by omega) _ _ (facP_bd hM1 hp1 out ho j) y hy
      have e9 : M * x.toNat ^ j * x.toNat = M * x.toNat ^ (j + 1) := by rw [Nat.mul_assoc]; rfl
      rw [← Int.natCast_mul, e9] at a
      have b : M * x.toNat ^ (j + 1) ≤ M * x.toNat ^ exE (clsL d).length x.toNat := Nat.mul_le_mul_left _ (Nat.pow_le_pow_right hp1 (by omega))
      omega
    | succ k =>
      have hpp := Nat.pow_pos (n := exE (clsL d).length x.toNat) (show 0 < x.toNat by omega)
      refine inv_bd D F (facE d out x) (M * x.toNat ^ exE (clsL d).length x.toNat) (fun z hz => hF z (by simp [hz])) hs.2 hd (Nat.mul_pos hM1 hpp) (fun z hz => ?_) (facP_bd hM1 hp1 out ho _) k (by simpa using h) j i hj y hy
      have h3 := hs.1 z hz
      have h4 := hpr z (by simp [hz])
      exact Nat.Coprime.mul_left (hc z (by simp [hz])) (Nat.Coprime.pow_left _ (pr_cop (hpr x (by simp)) h4 (by have := h4.1; omega)))
theorem inv_len {d : Int} (D : Dsc d) : ∀ (F : List Int) (out : List Int), (∀ x ∈ F, x ∈ prims (clsL d).length) → out.length ≤ 2000 → (F.foldl (facE d) out).length ≤ 2000
  | [], _, _, h => h
  | x :: F, out, hF, h => by
    rw [List.foldl_cons]
    refine inv_len D F _ (fun z hz => hF z (by simp [hz])) ?_
    obtain ⟨r, hP, _⟩ := pf_of D (hF x (by simp))
    unfold facE
    exact (facP_len _ _ _ _).2 ⟨h, fun i _ => (hP.rk i).2⟩
/-- What the loops ask at one place of the list of primes. -/
theorem inv_at {d : Int} (D : Dsc d) {k : Nat} (h : k < (prims (clsL d).length).length) :
    ∃ p e r : Nat, (prims (clsL d).length)[k] = (p : Int) ∧ PF d (clsL d).length p e r ∧ (∀ out, facE d out (p : Int) = facP d p out e) ∧
      ((((prims (clsL d).length).take k).foldl (facE d) []).length ≤ 2000 ∧ ∀ j, (facP d p (((prims (clsL d).length).take k).foldl (facE d) []) j).length ≤ 2000) ∧
      ∀ j i, j < e → ∀ y ∈ bumpL (facP d p (((prims (clsL d).length).take k).foldl (facE d) []) j) i p, 1 ≤ y ∧ y ≤ 1640 := by
  have hm0 : 0 < (clsL d).length := List.length_pos_of_mem D.one
  obtain ⟨r, hP, hx⟩ := pf_of D (List.getElem_mem h)
  have hl := inv_len D ((prims (clsL d).length).take k) [] (fun x hx => List.mem_of_mem_take hx) (by simp)
  refine ⟨_, _, r, hx.symm, hP, fun out => by rw [hx]; rfl, ⟨hl, fun j => (facP_len _ _ _ _).2 ⟨hl, fun i _ => (hP.rk i).2⟩⟩, fun j i hj y hy => ?_⟩
  exact inv_bd D _ [] 1 (fun x hx => hx) (prims_sasc (by omega)) (Nat.one_dvd _) (Nat.le_refl _) (fun x _ => Nat.coprime_one_left _) (by simp) k h j i hj y hy
end

section

/-- The product of a list, from the left. -/
def prodI (L : List Int) : Int := L.foldl (· * ·) 1
theorem prod_fold : ∀ (L : List Int) (a : Int), L.foldl (· * ·) a = a * prodI L
  | [], a => by simp [prodI]
  | x :: L, a => by
    unfold prodI
    rw [List.foldl_cons, List.foldl_cons, prod_fold L (a * x), prod_fold L (1 * x)]
    grind
theorem prod_cons (x : Int) (L : List Int) : prodI (x :: L) = x * prodI L := by
  unfold prodI
  rw [List.foldl_cons, prod_fold]
  unfold prodI
  grind
theorem prod_app : ∀ (L K : List Int), prodI (L ++ K) = prodI L * prodI K
  | [], K => by simp [prodI]
  | x :: L, K => by rw [List.cons_append, prod_cons, prod_cons, prod_app L K]; grind
theorem prod_rev : ∀ L : List Int, prodI L.reverse = prodI L
  | [] => rfl
  | x :: L => by rw [List.reverse_cons, prod_app, prod_rev L, prod_cons, prod_cons]; simp [prodI]; grind
theorem prod_take {L : List Int} {k : Nat} (h : k < L.length) : prodI (L.take (k + 1)) = prodI (L.take k) * L[k] := by
  rw [List.take_succ_eq_append_getElem h, prod_app, prod_cons]
  simp [prodI]
theorem bump_prod : ∀ (out : List Int) (k : Nat) (p : Int), prodI (bumpL out k p) = prodI out * p ^ k
  | out, 0, p => by rw [bumpL_zero]; simp
  | [], k + 1, p => by rw [bumpL, prod_cons, bump_prod [] k p, Int.pow_succ]; grind
  | x :: out, k + 1, p => by rw [bumpL, prod_cons, prod_cons, bump_prod out k p, Int.pow_succ]; grind
theorem cnt_succ {d : Int} (D : Dsc d) {p : Nat} (hp : Ab.PrN p) (e : Nat) : cntO d (p ^ (e + 1)) = cntO d (p ^ e) * p ^ rkP d p e := by
  obtain ⟨a, ha⟩ := cnt_pow D hp e
  obtain ⟨b, hb⟩ := cnt_pow D hp (e + 1)
  have hd := cnt_dvd D (Nat.pow_dvd_pow p (show e ≤ e + 1 by omega))
  have hp2 := hp.1
  have hle : a ≤ b := by
    rw [ha, hb] at hd
    exact (Nat.pow_dvd_pow_iff_le_right (by omega)).1 hd
  have hq : ((cntO d (p ^ (e + 1)) : Int) / (cntO d (p ^ e) : Int)) = ((p ^ (b - a) : Nat) : Int) := by
    rw [ha, hb, ← Int.natCast_ediv, Nat.pow_div hle (by omega)]
  have hk : rkP d p e = b - a := by
    unfold rkP
    rw [hq, expo_pow hp2]
    simp
  rw [hk, ha, hb, ← Nat.pow_add]
  congr 1
  omega
theorem facP_prod {d : Int} (D : Dsc d) {p : Nat} (hp : Ab.PrN p) (out : List Int) : ∀ e, prodI (facP d p out e) = prodI out * (cntO d (p ^ e) : Int)
  | 0 => by rw [facP, Nat.pow_zero, cnt_one D]; simp
  | e + 1 => by
    rw [facP, bump_prod, facP_prod D hp out e, cnt_succ D hp e, Int.natCast_mul, Int.natCast_pow]
    grind
theorem facE_prod {d : Int} (D : Dsc d) {x : Int} (hx : x ∈ prims (clsL d).length) (out : List Int) : prodI (facE d out x) = prodI out * ((x.toNat ^ exE (clsL d).length x.toNat : Nat) : Int) := by
  have hm0 : 0 < (clsL d).length := List.length_pos_of_mem D.one
  have hm1 := clsL_len d
  have hp := prI_nat ((mem_prims (by omega) (by omega)).1 hx).1
  obtain ⟨r, h1, h2⟩ := exE_ok hp hm0
  unfold facE
  rw [facP_prod D hp]
  have hpp := Nat.pow_pos (n := exE (clsL d).length x.toNat) (show 0 < x.toNat by have := hp.1; omega)
  have hr : 0 < r := Nat.pos_of_ne_zero (fun h0 => by subst h0; rw [Nat.mul_zero] at h1; omega)
  rw [cnt_part D hpp hr h1 (Nat.Coprime.pow_left _ h2)]
/-- The product of the powers of primes. -/
noncomputable def ppN (m : Nat) : List Int → Nat
  | [] => 1
  | x :: F => x.toNat ^ exE m x.toNat * ppN m F
theorem fold_prod {d : Int} (D : Dsc d) : ∀ (F out : List Int), (∀ x ∈ F, x ∈ prims (clsL d).length) → prodI (F.foldl (facE d) out) = prodI out * (ppN (clsL d).length F : Int)
  | [], out, _ => by simp [ppN]
  | x :: F, out, h => by
    rw [List.foldl_cons, fold_prod D F _ (fun y hy => h y (by simp [hy])), facE_prod D (h x (by simp)), ppN, Int.natCast_mul]
    grind
theorem pp_cop {m q : Nat} : ∀ F : List Int, (∀ x ∈ F, Nat.Coprime q x.toNat) → Nat.Coprime q (ppN m F)
  | [], _ => Nat.coprime_one_right _
  | x :: F, h => Nat.Coprime.mul_right (Nat.Coprime.pow_right _ (h x (by simp))) (pp_cop F fun y hy => h y (by simp [hy]))
theorem pp_dvd {m : Nat} (hm : 0 < m) : ∀ F : List Int, (∀ x ∈ F, Ab.PrN x.toNat) → SAsc F → ppN m F ∣ m
  | [], _, _ => Nat.one_dvd _
  | x :: F, h, hs => by
    obtain ⟨r, h1, _⟩ := exE_ok (h x (by simp)) hm
    refine Nat.Coprime.mul_dvd_of_dvd_of_dvd (Nat.Coprime.pow_left _ (pp_cop F fun y hy => ?_)) ⟨r, h1⟩ (pp_dvd hm F (fun y hy => h y (by simp [hy])) hs.2)
    have h3 := hs.1 y hy
    have h4 := h y (by simp [hy])
    exact pr_cop (h x (by simp)) h4 (by have := h4.1; omega)
theorem pp_has {m : Nat} : ∀ F : List Int, ∀ x ∈ F, x.toNat ^ exE m x.toNat ∣ ppN m F
  | [], x, h => by simp at h
  | y :: F, x, h => by
    rw [ppN]
    rcases List.mem_cons.1 h with rfl | h
    · exact Nat.dvd_mul_right _ _
    · exact Nat.dvd_trans (pp_has F x h) (Nat.dvd_mul_left _ _)
theorem prn_int2 {p : Nat} (h : Ab.PrN p) : PrI (p : Int) := by
  refine ⟨by have := h.1; omega, fun q h2 hq hd => ?_⟩
  have hd2 : q.toNat ∣ p := by
    apply Int.natCast_dvd_natCast.1
    rw [Int.toNat_of_nonneg (by omega)]
    exact hd
  rcases h.2 _ hd2 with e | e <;> omega
theorem pp_all {m : Nat} (hm : 0 < m) (hm1 : m ≤ 1640) : ppN m (prims m) = m := by
  have hpr : ∀ x ∈ prims m, Ab.PrN x.toNat := fun x hx => prI_nat ((mem_prims (by omega) (by omega)).1 hx).1
  obtain ⟨k, hk⟩ := pp_dvd hm (prims m) hpr (prims_sasc (by omega))
  have hk0 : k ≠ 0 := fun e => by rw [e, Nat.mul_zero] at hk; omega
  by_cases h1 : k = 1
  · rw [h1, Nat.mul_one] at hk; exact hk.symm
  · exfalso
    obtain ⟨q, hq, hqk⟩ := Ab.prime_ex k (by omega)
    have hmem : (q : Int) ∈ prims m := (mem_prims (by omega) (by omega)).2 ⟨prn_int2 hq, Int.natCast_dvd_natCast.2 (by rw [hk]; exact Nat.dvd_trans hqk (Nat.dvd_mul_left _ _))⟩
    have h2 := pp_has (m := m) (prims m) _ hmem
    rw [show (q : Int).toNat = q from rfl] at h2
    obtain ⟨r, h3, h4⟩ := exE_ok hq hm
    obtain ⟨a, ha⟩ := h2
    obtain ⟨b, hb⟩ := hqk
    have h5 : q ^ exE m q * r = q ^ exE m q * (q * (a * b)) := by
      rw [← h3]
      conv => lhs; rw [hk, ha, hb]
      simp only [Nat.mul_assoc, Nat.mul_left_comm]
    have h6 := Nat.eq_of_mul_eq_mul_left (Nat.pow_pos (show 0 < q by have := hq.1; omega)) h5
    have h7 : q ∣ r := ⟨a * b, h6⟩
    have h8 := Nat.Coprime.eq_one_of_dvd h4 h7
    have := hq.1
    omega
theorem inv_prod {d : Int} (D : Dsc d) : prodI (invL d).reverse = (clsL d).length := by
  have hm0 : 0 < (clsL d).length := List.length_pos_of_mem D.one
  rw [prod_rev]
  unfold invL
  rw [fold_prod D _ _ (fun _ h => h), pp_all hm0 (clsL_len d)]
  simp [prodI]
end
end Go.Proofs.Ytkkamlhpappebaa
