/- Parts GK GL GM GN GO GQ laid together by tp.py. -/
import Derived.Test.YtbecjnmifdbnjaaGJ
import Derived.Test.YtbecjnmifdbnjaaMM
import Derived.Test.YtbecjnmifdbnjaaQX
import Derived.Test.YtbecjnmifdbnjaaSX
import Derived.Test.YtbecjnmifdbnjaaRX
import Derived.Test.YtbecjnmifdbnjaaR1
import Derived.Test.YtbecjnmifdbnjaaYX
namespace Go.Proofs.Ytbecjnmifdbnjaa
section

theorem jC_succ (k a n : Nat) : jC (k + 1) a n = if a = 0 then (if n = 1 then 1 else 0) else if a % 2 = 0 then (if n % 8 = 1 ∨ n % 8 = 7 then jC k (a / 2) n else 3 - jC k (a / 2) n) else (if a % 4 = 3 ∧ n % 4 = 3 then 3 - jC k (n % a) a else jC k (n % a) a) := by
  show (Nat.rec (Nat.rec 0 (fun m _ => Nat.rec 1 (fun _ _ => 0) m) n) (fun _ _ =>
   bif (a % 2).beq 0 then (bif (n % 8).beq 1 then jC k (a / 2) n else bif (n % 8).beq 7 then jC k (a / 2) n else 3 - jC k (a / 2) n) else (bif (a % 4).beq 3 then (bif (n % 4).beq 3 then 3 - jC k (n % a) a else jC k (n % a) a) else jC k (n % a) a)) a : Nat) = _
  have hb : ∀ x y : Nat, x.beq y = decide (x = y) := fun x y => by rw [Bool.eq_iff_iff]; simp
  cases a with
  | zero =>
    rw [if_pos rfl]
    rcases n with _ | _ | n
    · rfl
    · rfl
    · rw [if_neg (by omega)]; rfl
  | succ a =>
    rw [if_neg (by omega)]
    simp only [hb, cond_eq_ite, decide_eq_true_eq]
    by_cases h1 : (a + 1) % 2 = 0
    · simp only [h1, if_true]
      by_cases h2 : n % 8 = 1
      · simp [h2]
      · by_cases h3 : n % 8 = 7
        · simp [h3]
        · simp [h2, h3]
    · simp only [h1, if_false]
      by_cases h2 : (a + 1) % 4 = 3
      · by_cases h3 : n % 4 = 3
        · simp [h2, h3]
        · simp [h2, h3]
      · simp [h2]
theorem two_nat (n : Nat) : two (n : Int) = if n % 8 = 1 ∨ n % 8 = 7 then 1 else -1 := by
  unfold two
  by_cases h : n % 8 = 1 ∨ n % 8 = 7
  · rw [if_pos h, if_pos (by omega)]
  · rw [if_neg h, if_neg (by omega)]
theorem jac_0 (k : Nat) (n : Int) : jac (k + 1) 0 n = if n = 1 then 1 else 0 := by unfold jac; rw [if_pos rfl]
theorem jac_e {k : Nat} {a n : Int} (h0 : ¬ a = 0) (h : a % 2 = 0) : jac (k + 1) a n = two n * jac k (a / 2) n := by rw [jac, if_neg h0, if_pos h]
theorem jac_o {k : Nat} {a n : Int} (h0 : ¬ a = 0) (h : ¬ a % 2 = 0) : jac (k + 1) a n = (if a % 4 = 3 ∧ n % 4 = 3 then -1 else 1) * jac k (n % a) a := by rw [jac, if_neg h0, if_neg h]
theorem jC_jac : ∀ k a n : Nat, (jC k a n = 1 → jac k a n = 1) ∧ (jC k a n = 2 → jac k a n = -1)
  | 0, a, n => by
    have : jC 0 a n = 0 := rfl
    rw [this]; exact ⟨by omega, by omega⟩
  | k + 1, a, n => by
    by_cases h0 : a = 0
    · subst h0
      rw [jC_succ, if_pos rfl]
      by_cases h1 : n = 1
      · subst h1
        rw [if_pos rfl]
        exact ⟨fun _ => (jac_0 k 1).trans (if_pos rfl), by omega⟩
      · rw [if_neg h1]; exact ⟨by omega, by omega⟩
    · rw [jC_succ, if_neg h0]
      by_cases h1 : a % 2 = 0
      · rw [if_pos h1, jac_e (by omega) (by omega), two_nat]
        have ih := jC_jac k (a / 2) n
        rw [show ((a / 2 : Nat) : Int) = (a : Int) / 2 from rfl] at ih
        by_cases h2 : n % 8 = 1 ∨ n % 8 = 7
        · rw [if_pos h2, if_pos h2, Int.one_mul]; exact ih
        · rw [if_neg h2, if_neg h2]
          exact ⟨fun h => by rw [ih.2 (by omega)]; rfl, fun h => by rw [ih.1 (by omega)]; rfl⟩
      · rw [if_neg h1, jac_o (by omega) (by omega)]
        have ih := jC_jac k (n % a) a
        rw [show ((n % a : Nat) : Int) = (n : Int) % (a : Int) from rfl] at ih
        by_cases h2 : a % 4 = 3 ∧ n % 4 = 3
        · rw [if_pos h2, if_pos (by omega)]
          exact ⟨fun h => by rw [ih.2 (by omega)]; rfl, fun h => by rw [ih.1 (by omega)]; rfl⟩
        · rw [if_neg h2, if_neg (by omega), Int.one_mul]; exact ih
theorem jC_S {a n : Nat} : (jC (a + 1) a n = 1 → jacS a n = 1) ∧ (jC (a + 1) a n = 2 → jacS a n = -1) := by
  have h := jC_jac (a + 1) a n
  unfold jacS
  rw [show ((a : Int)).toNat + 1 = a + 1 by simp]
  exact h

theorem pwC_succ (q g n x s : Nat) : pwC q g (n + 1) x s = ((jC (x + 1) x q == s) && (n + 2 == q || x != 1) && pwC q g n (g * x % q) (3 - s)) := by
  show (bif (jC (x + 1) x q).beq s then (bif (n + 2).beq q then pwC q g n (g * x % q) (3 - s) else bif x.beq 1 then false else pwC q g n (g * x % q) (3 - s)) else false) = _
  have hb : ∀ x y : Nat, x.beq y = (x == y) := fun x y => by rw [Bool.eq_iff_iff]; simp
  simp only [hb]
  cases jC (x + 1) x q == s <;> cases hn : (n + 2 == q) <;> cases hx : (x == 1) <;> simp [bne, hx]
theorem pwC_zero (q g x s : Nat) : pwC q g 0 x s = (x == 1) := by
  show x.beq 1 = _
  rw [Bool.eq_iff_iff]; simp
theorem pw_shift (q g x i : Nat) : g * x % q * g ^ i % q = x * g ^ (i + 1) % q := by
  rw [Nat.mul_mod, Nat.mod_mod, ← Nat.mul_mod, Nat.pow_succ]
  congr 1
  grind
/-- What the check says. -/
theorem pwC_at {q g : Nat} : ∀ (n x s : Nat), x % q = x → (s = 1 ∨ s = 2) → pwC q g n x s = true →
    (∀ i, i < n → jC (x * g ^ i % q + 1) (x * g ^ i % q) q = (if i % 2 = 0 then s else 3 - s)) ∧ (∀ i, i < n → n - i + 1 ≠ q → x * g ^ i % q ≠ 1) ∧ x * g ^ n % q = 1
  | 0, x, s, hx, _, h => by
    rw [pwC_zero] at h
    simp at h; subst h
    exact ⟨by omega, by omega, by simpa using hx⟩
  | n + 1, x, s, hx, hs, h => by
    rw [pwC_succ] at h
    simp only [Bool.and_eq_true, beq_iff_eq, Bool.or_eq_true, bne_iff_ne] at h
    obtain ⟨⟨h1, h2⟩, h3⟩ := h
    obtain ⟨i1, i2, i3⟩ := pwC_at n (g * x % q) (3 - s) (Nat.mod_mod _ _) (by omega) h3
    refine ⟨fun i hi => ?_, fun i hi hn => ?_, ?_⟩
    · cases i with
      | zero => simp only [Nat.pow_zero, Nat.mul_one, hx, Nat.zero_mod, if_true]; exact h1
      | succ i =>
        have := i1 i (by omega)
        rw [pw_shift] at this
        rw [this]
        rcases Nat.mod_two_eq_zero_or_one i with e | e
        · rw [if_pos e, if_neg (by omega)]
        · rw [if_neg (by omega), if_pos (by omega)]; omega
    · cases i with
      | zero =>
        simp only [Nat.pow_zero, Nat.mul_one, hx]
        rcases h2 with h2 | h2
        · omega
        · exact h2
      | succ i =>
        have := i2 i (by omega) (by omega)
        rwa [pw_shift] at this
    · rw [pw_shift] at i3; exact i3

/-- The facts on a prime of the table. -/
structure PrT (q : Nat) : Prop where
  q3 : 3 ≤ q
  log : ∃ g : Nat, (∀ a : Nat, 0 < a → a < q → ∃ i, i < q - 1 ∧ a = g ^ i % q) ∧ (∀ i : Nat, jacS ((g ^ i % q : Nat) : Int) q = if i % 2 = 0 then 1 else -1)
theorem prT_of {q g : Nat} (h3 : 3 ≤ q) (ho : q % 2 = 1) (h : pwC q g (q - 1) 1 1 = true) : PrT q := by
  obtain ⟨h1, h2, hl⟩ := pwC_at (q - 1) 1 1 (Nat.mod_eq_of_lt (by omega)) (.inl rfl) h
  simp only [Nat.one_mul] at h1 h2 hl
  have hlt : ∀ i, g ^ i % q < q := fun i => Nat.mod_lt _ (by omega)
  -- g has an inverse
  have hper : ∀ i, g ^ (i + (q - 1)) % q = g ^ i % q := fun i => by
    rw [Nat.pow_add, Nat.mul_mod, hl, Nat.mul_one, Nat.mod_mod]
  have hred : ∀ k i, g ^ (i + k * (q - 1)) % q = g ^ i % q := fun k => by
    induction k with
    | zero => intro i; simp
    | succ k ih => intro i; rw [Nat.succ_mul, ← Nat.add_assoc, hper, ih]
  have hne0 : ∀ i, g ^ i % q ≠ 0 := fun i h0 => by
    have h5 : g ^ (i + (i * (q - 2) + 0)) % q = 1 := by
      have e : i + (i * (q - 2) + 0) = 0 + i * (q - 1) := by
        obtain ⟨m, rfl⟩ : ∃ m, q = m + 2 := ⟨q - 2, by omega⟩
        simp only [Nat.add_sub_cancel, show m + 2 - 1 = m + 1 by omega]; rw [Nat.mul_succ]; omega
      rw [e, hred]; simp; exact Nat.mod_eq_of_lt (by omega)
    rw [Nat.pow_add, Nat.mul_mod, h0, Nat.zero_mul, Nat.zero_mod] at h5
    omega
  -- the powers differ
  have hinj : ∀ i k, i + k < q - 1 → g ^ i % q = g ^ (i + k) % q → k = 0 := fun i k hk he => by
    apply Nat.eq_zero_of_not_pos
    intro hp
    have e1 : g ^ (i * (q - 2)) * g ^ i % q = 1 := by
      rw [← Nat.pow_add]
      have e : i * (q - 2) + i = 0 + i * (q - 1) := by
        obtain ⟨m, rfl⟩ : ∃ m, q = m + 2 := ⟨q - 2, by omega⟩
        simp only [Nat.add_sub_cancel, show m + 2 - 1 = m + 1 by omega]; rw [Nat.mul_succ]; omega
      rw [e, hred]; simp; exact Nat.mod_eq_of_lt (by omega)
    have e2 : g ^ k % q = 1 := by
      have : g ^ (i * (q - 2)) * g ^ (i + k) % q = 1 := by rw [Nat.mul_mod, ← he, ← Nat.mul_mod, e1]
      rw [Nat.pow_add, ← Nat.mul_assoc, Nat.mul_mod, e1, Nat.one_mul, Nat.mod_mod] at this
      exact this
    exact h2 k (by omega) (by omega) e2
  have hnd : ((List.range (q - 1)).map (fun i => g ^ i % q)).Nodup := by
    unfold List.Nodup
    rw [List.pairwise_map]
    refine List.Pairwise.imp_of_mem (R := fun a b => a < b) ?_ List.pairwise_lt_range
    intro a b ha hb hab he
    have hb' := List.mem_range.1 hb
    have := hinj a (b - a) (by omega) (by rw [show a + (b - a) = b by omega]; exact he)
    omega
  refine ⟨h3, g, ?_, ?_⟩
  · intro a ha hq
    by_cases hm : a ∈ (List.range (q - 1)).map (fun i => g ^ i % q)
    · obtain ⟨i, hi, he⟩ := List.mem_map.1 hm
      exact ⟨i, List.mem_range.1 hi, he.symm⟩
    · exfalso
      have hnd2 : (0 :: a :: (List.range (q - 1)).map (fun i => g ^ i % q)).Nodup := by
        refine List.nodup_cons.2 ⟨?_, List.nodup_cons.2 ⟨hm, hnd⟩⟩
        intro h0
        rcases List.mem_cons.1 h0 with h0 | h0
        · omega
        · obtain ⟨i, _, he⟩ := List.mem_map.1 h0
          exact hne0 i he
      have := hnd2.length_le_of_subset (l₂ := List.range q) (fun x hx => by
        rcases List.mem_cons.1 hx with rfl | hx
        · exact List.mem_range.2 (by omega)
        · rcases List.mem_cons.1 hx with rfl | hx
          · exact List.mem_range.2 hq
          · obtain ⟨i, _, rfl⟩ := List.mem_map.1 hx
            exact List.mem_range.2 (hlt i))
      simp at this
      omega
  · intro i
    have hr : g ^ i % q = g ^ (i % (q - 1)) % q := by
      have := hred (i / (q - 1)) (i % (q - 1))
      rw [Nat.mul_comm, Nat.mod_add_div] at this
      exact this
    have hm : i % (q - 1) < q - 1 := Nat.mod_lt _ (by omega)
    have hp : i % (q - 1) % 2 = i % 2 := Nat.mod_mod_of_dvd _ (by omega)
    have hj := h1 _ hm
    rw [hr]
    rcases Nat.mod_two_eq_zero_or_one i with e | e
    · rw [if_pos e]; rw [hp, if_pos e] at hj; exact jC_S.1 hj
    · rw [if_neg (by omega)]; rw [hp, if_neg (by omega)] at hj; exact jC_S.2 hj
/-- The symbol multiplies. -/
theorem PrT.mul {q : Nat} (h : PrT q) (a b : Int) : jacS (a * b % q) q = jacS (a % q) q * jacS (b % q) q := by
  obtain ⟨h3, g, hl, hj⟩ := h
  have hz : jacS 0 (q : Int) = 0 := by rw [jacS_zero, if_neg (by omega)]
  have hlog : ∀ x : Int, x % q = 0 ∨ ∃ i : Nat, x % q = ((g ^ i % q : Nat) : Int) := fun x => by
    by_cases h0 : x % q = 0
    · exact .inl h0
    · have h1 := Int.emod_nonneg x (show (q : Int) ≠ 0 by omega)
      have h2 := Int.emod_lt_of_pos x (show (0 : Int) < q by omega)
      obtain ⟨i, _, he⟩ := hl (x % q).toNat (by omega) (by omega)
      exact .inr ⟨i, by omega⟩
  rw [Int.mul_emod]
  rcases hlog a with ha | ⟨i, ha⟩
  · rw [ha, Int.zero_mul, Int.zero_emod, hz, Int.zero_mul]
  · rcases hlog b with hb | ⟨k, hb⟩
    · rw [hb, Int.mul_zero, Int.zero_emod, hz, Int.mul_zero]
    · rw [ha, hb, hj i, hj k]
      have e : ((g ^ i % q : Nat) : Int) * ((g ^ k % q : Nat) : Int) % (q : Int) = ((g ^ (i + k) % q : Nat) : Int) := by
        rw [← Int.natCast_mul, ← Int.natCast_emod, ← Nat.mul_mod, Nat.pow_add]
      rw [e, hj]
      rcases Nat.mod_two_eq_zero_or_one i with e1 | e1 <;> rcases Nat.mod_two_eq_zero_or_one k with e2 | e2
      · rw [if_pos (show (i + k) % 2 = 0 by omega), if_pos e1, if_pos e2]; rfl
      · rw [if_neg (show ¬ (i + k) % 2 = 0 by omega), if_pos e1, if_neg (show ¬ k % 2 = 0 by omega)]; rfl
      · rw [if_neg (show ¬ (i + k) % 2 = 0 by omega), if_neg (show ¬ i % 2 = 0 by omega), if_pos e2]; rfl
      · rw [if_pos (show (i + k) % 2 = 0 by omega), if_neg (show ¬ i % 2 = 0 by omega), if_neg (show ¬ k % 2 = 0 by omega)]; rfl
theorem PrT.odd_of {q : Nat} (h3 : 3 ≤ q) (hq : q ≤ 2000) (ho : q % 2 = 1) (hp : ∀ r, 2 ≤ r → r < q → ¬ r ∣ q) (hb : ¬ (667 ≤ q ∧ q % 4 = 1)) : PrT q := by
  have h := List.all_eq_true.1 tabQ_all q (List.mem_range.2 (by omega))
  simp only [Bool.or_eq_true, decide_eq_true_eq, beq_iff_eq, Bool.and_eq_true] at h
  rcases h with (((h | h) | h) | h) | h
  · omega
  · omega
  · exfalso
    unfold hasDiv at h
    obtain ⟨r, _, hr⟩ := List.any_eq_true.1 h
    simp only [Bool.and_eq_true, decide_eq_true_eq, beq_iff_eq] at hr
    exact hp (r + 2) (by omega) hr.1 (Nat.dvd_of_mod_eq_zero hr.2)
  · exact absurd h hb
  · obtain ⟨p, hm, he⟩ := List.any_eq_true.1 h
    simp at he
    have := tabQ_ok hm
    rw [he] at this
    exact prT_of h3 ho this
end

section

/-- A primitive positive form of the discriminant d. -/
structure PD (d : Int) (f : Fm) : Prop where
  a0 : 0 < f.a
  dc : disc f = d
  pr : Int.gcd f.a (Int.gcd f.b f.c) = 1
section
variable {d : Int} {f g : Fm}
theorem PD.of_mem (D : Dsc d) (hf : f ∈ clsL d) : PD d f := by
  obtain ⟨⟨f1, _, f3, f4, _⟩, f5⟩ := mem_clsL D.lo hf
  exact ⟨by omega, f3, f5⟩
theorem PD.c0 (D : Dsc d) (h : PD d f) : 0 < f.c ∧ f.b * f.b < 4 * (f.a * f.c) := by
  have h1 := h.dc
  have h2 := D.hi
  have h3 := h.a0
  simp only [disc] at h1
  have h4 : f.b * f.b < 4 * (f.a * f.c) := by
    have : 4 * f.a * f.c = 4 * (f.a * f.c) := by grind
    omega
  exact ⟨c_of_disc h3 h4, h4⟩
theorem PD.def_ (D : Dsc d) (h : PD d f) : Def (f.a + f.c) f := by
  have h1 := h.c0 D
  have h2 := h.a0
  exact ⟨h2, by omega, h1.1, by omega, h1.2⟩
theorem PD.sn (D : Dsc d) (h : PD d f) : disc f = sD d * sD d - 4 * nD d := by
  rw [h.dc, Go.Proofs.Ytbecjnmifdbnjaa.sn D.md]
theorem PD.red_mem (D : Dsc d) (h : PD d f) : red f ∈ clsL d :=
  mem_clsL_of D.lo (red_def (h.def_ D)).a0 ((red_disc (h.def_ D)).trans h.dc) (red_isRed (h.def_ D)) (red_prm (h.def_ D) h.pr)
theorem PD.hom (D : Dsc d) (h : PD d f) : Hom (sD d) (nD d) (IF (sD d) f) (IF (sD d) (red f)) := red_hom (h.def_ D) (h.sn D)
theorem PD.red_eq (D : Dsc d) (h : PD d f) (h' : PD d g) (hh : Hom (sD d) (nD d) (IF (sD d) f) (IF (sD d) g)) : red f = red g :=
  cls_eq D.lo D.hi D.md (h.red_mem D) (h'.red_mem D) (((h.hom D).symm.trans hh).trans (h'.hom D))
theorem red_cls (D : Dsc d) (hf : f ∈ clsL d) : red f = f := by
  obtain ⟨⟨_, _, _, f4, _⟩, _⟩ := mem_clsL D.lo hf
  exact red_of f4
/-- The form that a matrix makes. -/
def subF (f : Fm) (x q y t : Int) : Fm := ⟨f.a * (x * x) + f.b * (x * y) + f.c * (y * y), 2 * (f.a * (x * q)) + f.b * (x * t + q * y) + 2 * (f.c * (y * t)), f.a * (q * q) + f.b * (q * t) + f.c * (t * t)⟩
theorem subF_disc (f : Fm) (x q y t : Int) : disc (subF f x q y t) = disc f * ((x * t - q * y) * (x * t - q * y)) := by
  simp only [disc, subF]; grind
theorem subF_back (f : Fm) {x q y t : Int} (h : x * t - q * y = 1) : subF (subF f x q y t) t (-q) (-y) x = f := by
  have e1 : (subF (subF f x q y t) t (-q) (-y) x).a = f.a * ((x * t - q * y) * (x * t - q * y)) := by simp only [subF]; grind
  have e2 : (subF (subF f x q y t) t (-q) (-y) x).b = f.b * ((x * t - q * y) * (x * t - q * y)) := by simp only [subF]; grind
  have e3 : (subF (subF f x q y t) t (-q) (-y) x).c = f.c * ((x * t - q * y) * (x * t - q * y)) := by simp only [subF]; grind
  rw [h] at e1 e2 e3
  have hh : ∀ F G : Fm, F.a = G.a → F.b = G.b → F.c = G.c → F = G := fun F G h1 h2 h3 => by cases F; cases G; simp_all
  exact hh _ _ (by simpa using e1) (by simpa using e2) (by simpa using e3)
theorem val_pos (ha : 0 < f.a) (hd : disc f < 0) {x y : Int} (h : ¬ (x = 0 ∧ y = 0)) : 0 < f.a * (x * x) + f.b * (x * y) + f.c * (y * y) := by
  have key : 4 * f.a * (f.a * (x * x) + f.b * (x * y) + f.c * (y * y)) = (2 * f.a * x + f.b * y) * (2 * f.a * x + f.b * y) + -(disc f) * (y * y) := by
    simp only [disc]; grind
  have s1 : 0 ≤ (2 * f.a * x + f.b * y) * (2 * f.a * x + f.b * y) := sq_nonneg _
  have s2 : 0 ≤ y * y := sq_nonneg _
  have s3 : 0 ≤ -(disc f) * (y * y) := Int.mul_nonneg (by omega) s2
  have hpos : 0 < 4 * f.a * (f.a * (x * x) + f.b * (x * y) + f.c * (y * y)) := by
    by_cases hy : y = 0
    · subst hy
      have hx : x ≠ 0 := fun e => h ⟨e, rfl⟩
      have h1 : 0 < (2 * f.a * x) * (2 * f.a * x) := by
        have : 2 * f.a * x ≠ 0 := Int.mul_ne_zero (by omega) hx
        rcases Int.lt_or_gt_of_ne this with h2 | h2
        · exact Int.mul_pos_of_neg_of_neg h2 h2
        · exact Int.mul_pos h2 h2
      have e : 2 * f.a * x + f.b * 0 = 2 * f.a * x := by omega
      rw [e] at key s1
      omega
    · have h1 : 0 < y * y := by
        rcases Int.lt_or_gt_of_ne hy with h2 | h2
        · exact Int.mul_pos_of_neg_of_neg h2 h2
        · exact Int.mul_pos h2 h2
      have h2 : 0 < -(disc f) * (y * y) := Int.mul_pos (by omega) h1
      omega
  have h4 : 0 < 4 * f.a := by omega
  refine Int.not_le.1 fun hle => ?_
  have h5 := Int.mul_le_mul_of_nonneg_left hle (Int.le_of_lt h4)
  rw [Int.mul_zero] at h5
  omega
theorem subF_of (f : Fm) (x q y t : Int) (g : Fm) (h : subF f x q y t = g) (m : Int) (h1 : m ∣ f.a) (h2 : m ∣ f.b) (h3 : m ∣ f.c) : m ∣ g.a ∧ m ∣ g.b ∧ m ∣ g.c := by
  subst h
  obtain ⟨u, hu⟩ := h1
  obtain ⟨v, hv⟩ := h2
  obtain ⟨w, hw⟩ := h3
  refine ⟨⟨u * (x * x) + v * (x * y) + w * (y * y), ?_⟩, ⟨2 * (u * (x * q)) + v * (x * t + q * y) + 2 * (w * (y * t)), ?_⟩, ⟨u * (q * q) + v * (q * t) + w * (t * t), ?_⟩⟩ <;> simp only [subF, hu, hv, hw] <;> grind
theorem PD.sub (D : Dsc d) (h : PD d f) {x q y t : Int} (hdet : x * t - q * y = 1) : PD d (subF f x q y t) ∧ red (subF f x q y t) = red f := by
  have hd : disc (subF f x q y t) = d := by rw [subF_disc, hdet, h.dc]; omega
  have ha : 0 < (subF f x q y t).a := val_pos h.a0 (by rw [h.dc]; have := D.hi; omega) (by
    rintro ⟨rfl, rfl⟩; omega)
  have hp : PD d (subF f x q y t) := by
    refine ⟨ha, hd, ?_⟩
    rw [prm_iff]
    intro m h1 h2 h3
    obtain ⟨g1, g2, g3⟩ := subF_of (subF f x q y t) t (-q) (-y) x f (subF_back f hdet) m h1 h2 h3
    exact (prm_iff f).1 h.pr m g1 g2 g3
  refine ⟨hp, (h.red_eq D hp ?_).symm⟩
  have hn := hF_norm (h.sn D)
  have h2 := hF_two (h.sn D)
  have h3 := hF_two (hp.sn D)
  have hfb : f.b = 2 * hF (sD d) f - sD d := by omega
  refine Id.subst (x := x) (q := q) (y := y) (t := t) hn hdet (by have := h.a0; omega) (by rw [← hfb]; rfl) (by have := ha; exact fun e => by rw [e] at this; omega) ?_
  have e : (subF f x q y t).b + sD d = 2 * (f.a * (x * q) + hF (sD d) f * (x * t + q * y) + f.c * (y * t) - sD d * (q * y)) := by
    simp only [subF]
    rw [hfb]
    have hxt : x * t = 1 + q * y := by omega
    rw [hxt]; grind
  show hF (sD d) (subF f x q y t) = _
  omega
/-- The values at points without a common divisor. -/
def prep (f : Fm) (v : Int) : Prop := ∃ x y, Int.gcd x y = 1 ∧ v = f.a * (x * x) + f.b * (x * y) + f.c * (y * y)
theorem gcd1_of {x y k l : Int} (h : k * x + l * y = 1) : Int.gcd x y = 1 := by
  have h1 : (Int.gcd x y : Int) ∣ 1 := by
    rw [← h]
    exact Int.dvd_add (Int.dvd_mul_of_dvd_right (Int.gcd_dvd_left ..)) (Int.dvd_mul_of_dvd_right (Int.gcd_dvd_right ..))
  have := Int.le_of_dvd (by omega) h1
  have h2 : Int.gcd x y ≠ 0 := fun e => by
    have := Int.gcd_eq_zero_iff.1 e
    rw [this.1, this.2] at h; simp at h
  omega
theorem prep_sub {x q y t v : Int} (hdet : x * t - q * y = 1) (h : prep (subF f x q y t) v) : prep f v := by
  obtain ⟨X, Y, hg, hv⟩ := h
  obtain ⟨k, l, hkl⟩ := bez X Y
  rw [hg] at hkl
  refine ⟨x * X + q * Y, y * X + t * Y, ?_, ?_⟩
  · apply gcd1_of (k := k * t - l * y) (l := l * x - k * q)
    have e : (k * t - l * y) * (x * X + q * Y) + (l * x - k * q) * (y * X + t * Y) = (x * t - q * y) * (k * X + l * Y) := by grind
    rw [e, hdet, hkl]; rfl
  · rw [hv]; simp only [subF]; grind
theorem prep_iff {x q y t v : Int} (hdet : x * t - q * y = 1) : prep (subF f x q y t) v ↔ prep f v := by
  refine ⟨prep_sub hdet, fun h => ?_⟩
  rw [← subF_back f hdet] at h
  exact prep_sub (x := t) (q := -q) (y := -y) (t := x) (by grind) h
theorem step_sub2 (f : Fm) : ∃ x q y t, x * t - q * y = 1 ∧ stepF f = subF f x q y t := by
  unfold stepF
  split
  · exact ⟨0, -1, 1, 0, by omega, by simp [subF]⟩
  · refine ⟨1, tr f.a f.b, 0, 1, by omega, ?_⟩
    simp only [subF, Fm.mk.injEq]
    refine ⟨by omega, by grind, by grind⟩
theorem prep_red {M : Int} (h : Def M f) (v : Int) : prep (red f) v ↔ prep f v :=
  red_ind (p := fun g => prep g v ↔ prep f v) f h Iff.rfl fun g _ _ ih => by
    obtain ⟨x, q, y, t, hdet, e⟩ := step_sub2 g
    rw [e, prep_iff hdet, ih]
/-- The composite, from forms of the classes. -/
theorem PD.cmp (D : Dsc d) (hf : PD d f) (hg : PD d g) {x y q t e hb hc b t1 t2 k l c : Int} (h : Uni f g x y q t e hb hc b t1 t2 k l) (he : 0 < e) (hc : b * b - d = 4 * (f.a * e) * c) :
    PD d ⟨f.a * e, b, c⟩ ∧ Go.Proofs.Ytbecjnmifdbnjaa.cmp d (red f) (red g) = red ⟨f.a * e, b, c⟩ := by
  have es := Go.Proofs.Ytbecjnmifdbnjaa.sn D.md
  obtain ⟨c', hc1, hc2, hc3⟩ := h.c (hf.dc.trans hg.dc.symm)
  have hfe : 0 < f.a * e := Int.mul_pos hf.a0 he
  have ecc : c = c' := by
    rw [hf.dc, hc] at hc1
    refine Int.eq_of_mul_eq_mul_left (a := 4 * (f.a * e)) ?_ hc1
    omega
  subst ecc
  have hd : disc ⟨f.a * e, b, c⟩ = d := by
    simp only [disc]
    have : 4 * (f.a * e) * c = 4 * (f.a * e) * c := rfl
    omega
  have hh : PD d ⟨f.a * e, b, c⟩ := ⟨hfe, hd, h.prim hf.pr hg.pr hc2 hc3⟩
  refine ⟨hh, D.of ⟨hh.red_mem D, ?_⟩⟩
  have P := comp_class (s := sD d) (n := nD d) (f := f) (g := g) (b := b) (c := c) (hf.sn D) (hg.sn D) (by have := hg.a0; omega) (by omega) h.hdet h.he h.hhb h.hb1 h.hb2 (hh.sn D) h.hgcd
  exact ((Hom.pr2 (hf.hom D).symm (hg.hom D).symm).trans P).trans (hh.hom D)
theorem val_good (h : PD d f) {n : Int} (hn : n ≠ 0) : ∃ x y, Int.gcd x y = 1 ∧ Int.gcd (f.a * (x * x) + f.b * (x * y) + f.c * (y * y)) n = 1 := by
  obtain ⟨x, y, _, _, h1, h2⟩ := pt_any hn h.pr
  refine ⟨x, y, h1, ?_⟩
  have e : f.a * (x * x) + f.b * (x * y) + f.c * (y * y) = f.a * x * x + f.b * x * y + f.c * y * y := by grind
  rw [e]; exact h2
theorem det_ex {x y : Int} (h : Int.gcd x y = 1) : ∃ q t, x * t - q * y = 1 := by
  obtain ⟨k, l, hkl⟩ := bez x y
  rw [h] at hkl
  exact ⟨-l, k, by have : x * k - -l * y = k * x + l * y := by grind
                   rw [this]; exact hkl⟩
/-- A form of the class whose first coefficient is a value at a point without a common divisor. -/
theorem prep_form (D : Dsc d) (h : PD d f) {v : Int} (hv : prep f v) : ∃ b c, PD d ⟨v, b, c⟩ ∧ red ⟨v, b, c⟩ = red f := by
  obtain ⟨x, y, hg, rfl⟩ := hv
  obtain ⟨q, t, hdet⟩ := det_ex hg
  have := h.sub D hdet
  exact ⟨_, _, this⟩
/-- Values of two classes that are coprime make a value of the composite. -/
theorem cmp_prep (D : Dsc d) (hf : f ∈ clsL d) (hg : g ∈ clsL d) {v w : Int} (hv : prep f v) (hw : prep g w) (hc : Int.gcd v w = 1) : prep (Go.Proofs.Ytbecjnmifdbnjaa.cmp d f g) (v * w) := by
  have pf := PD.of_mem D hf
  have pg := PD.of_mem D hg
  obtain ⟨b1, c1, p1, r1⟩ := prep_form D pf hv
  obtain ⟨x, y, hxy, rfl⟩ := hw
  obtain ⟨q, t, hdet⟩ := det_ex hxy
  obtain ⟨k, l, hkl⟩ := bez v (g.a * (x * x) + g.b * (x * y) + g.c * (y * y))
  rw [hc] at hkl
  have he : 0 < g.a * (x * x) + g.b * (x * y) + g.c * (y * y) := (pg.sub D hdet).1.a0
  have hpar : ∃ z, 2 * (g.a * (x * q)) + g.b * (x * t + q * y) + 2 * (g.c * (y * t)) - b1 = 2 * z := by
    have h1 := hF_two ((pg.sub D hdet).1.sn D)
    have h2 := hF_two (p1.sn D)
    simp only [subF] at h1
    refine ⟨hF (sD d) (subF g x q y t) - hF (sD d) ⟨v, b1, c1⟩, ?_⟩
    simp only [subF] at h1 h2 ⊢
    omega
  obtain ⟨z, hz⟩ := hpar
  have hU : Uni ⟨v, b1, c1⟩ g x y q t (g.a * (x * x) + g.b * (x * y) + g.c * (y * y)) (2 * (g.a * (x * q)) + g.b * (x * t + q * y) + 2 * (g.c * (y * t))) (g.a * (q * q) + g.b * (q * t) + g.c * (t * t)) (b1 + 2 * (v * (k * z))) (k * z) (-(l * z)) k l := by
    refine ⟨hdet, rfl, rfl, rfl, rfl, ?_, by simpa using hkl⟩
    generalize g.a * (x * x) + g.b * (x * y) + g.c * (y * y) = e at hkl he ⊢
    generalize 2 * (g.a * (x * q)) + g.b * (x * t + q * y) + 2 * (g.c * (y * t)) = hb at hz ⊢
    have h1 : z = (k * v + l * e) * z := by rw [hkl]; simp
    have h2 : hb = b1 + 2 * ((k * v + l * e) * z) := by rw [← h1]; omega
    rw [h2]; grind
  obtain ⟨c, hc1, _⟩ := hU.c (p1.dc.trans pg.dc.symm)
  rw [p1.dc] at hc1
  have := p1.cmp D pg hU he hc1
  rw [r1, red_cls D hf, red_cls D hg] at this
  rw [this.2, prep_red (this.1.def_ D)]
  exact ⟨1, 0, by decide, by simp⟩
/-- Values of one class. -/
theorem prep_sq (f : Fm) {v w : Int} (hv : prep f v) (hw : prep f w) : ∃ X Y, 4 * (v * w) = X * X - disc f * (Y * Y) := by
  obtain ⟨x, y, _, rfl⟩ := hv
  obtain ⟨u, z, _, rfl⟩ := hw
  refine ⟨2 * (f.a * (x * u)) + f.b * (x * z + u * y) + 2 * (f.c * (y * z)), x * z - u * y, ?_⟩
  simp only [disc]; grind
end
end

section

/-- The odd symbols of a character at the residue r modulo 8. -/
def tw (k r : Nat) : Int := if k = 2 then 2 - (r % 4 : Nat) else if k = 3 then (if r % 8 = 1 ∨ r % 8 = 7 then 1 else -1) else (2 - (r % 4 : Nat)) * (if r % 8 = 1 ∨ r % 8 = 7 then 1 else -1)
theorem tw_mul : ((List.range 8).all fun r => (List.range 8).all fun s => (r % 2 == 0) || (s % 2 == 0) || ([2, 3, 4].all fun k => tw k (r * s % 8) == tw k r * tw k s)) = true := by decide +kernel
/-- Which characters there are for d = -4 n, by n modulo 8. -/
def twK (n k : Nat) : Bool := ((n == 1 || n == 5 || n == 4) && k == 2) || (n == 2 && k == 4) || (n == 6 && k == 3) || (n == 0 && (k == 2 || k == 3))
theorem tw_form : ((List.range 8).all fun x => (List.range 8).all fun y => (List.range 8).all fun n => ((x * x + n * (y * y)) % 2 == 0) || ([2, 3, 4].all fun k => !twK n k || tw k ((x * x + n * (y * y)) % 8) == 1)) = true := by decide +kernel
theorem chi_tw {k n : Int} (hk : k = 2 ∨ k = 3 ∨ k = 4) (hn : n % 2 = 1) : chi (k, 0) n = tw k.toNat (n % 8).toNat := by
  have h4 : n % 4 = ((n % 8).toNat % 4 : Nat) := by omega
  have ht : two n = if (n % 8).toNat % 8 = 1 ∨ (n % 8).toNat % 8 = 7 then 1 else -1 := by
    unfold two
    by_cases h : n % 8 = 1 ∨ n % 8 = 7
    · rw [if_pos h, if_pos (by omega)]
    · rw [if_neg h, if_neg (by omega)]
  unfold chi tw
  simp only
  rw [if_neg (by omega), if_neg (by omega), ← ht, ← h4]
  rcases hk with rfl | rfl | rfl
  · rw [if_pos rfl, if_pos (by decide)]
  · rw [if_neg (by decide), if_pos rfl, if_neg (by decide), if_pos (by decide)]
  · rw [if_neg (by decide), if_neg (by decide), if_neg (by decide), if_neg (by decide)]
theorem mod8_mul (v w : Int) : (v * w % 8).toNat = (v % 8).toNat * (w % 8).toNat % 8 := by
  rw [Int.mul_emod]
  obtain ⟨a, ha⟩ : ∃ a : Nat, v % 8 = a := ⟨(v % 8).toNat, by omega⟩
  obtain ⟨b, hb⟩ : ∃ b : Nat, w % 8 = b := ⟨(w % 8).toNat, by omega⟩
  rw [ha, hb]
  simp only [Int.toNat_natCast]
  omega
theorem chi2_mul {k v w : Int} (hk : k = 2 ∨ k = 3 ∨ k = 4) (hv : v % 2 = 1) (hw : w % 2 = 1) : chi (k, 0) (v * w) = chi (k, 0) v * chi (k, 0) w := by
  have hvw : v * w % 2 = 1 := by rw [Int.mul_emod, hv, hw]; rfl
  rw [chi_tw hk hv, chi_tw hk hw, chi_tw hk hvw, mod8_mul]
  have h1 := List.all_eq_true.1 tw_mul (v % 8).toNat (List.mem_range.2 (by omega))
  have h2 := List.all_eq_true.1 h1 (w % 8).toNat (List.mem_range.2 (by omega))
  simp only [Bool.or_eq_true, beq_iff_eq] at h2
  rcases h2 with (h2 | h2) | h2
  · omega
  · omega
  · have := List.all_eq_true.1 h2 k.toNat (by rcases hk with rfl | rfl | rfl <;> decide)
    simpa using this
/-- An odd prime that divides d is in the table. -/
theorem prT_dvd {d p : Int} (D : Dsc d) (hp : 2 ≤ p ∧ NoDiv p p) (hd : p ∣ d) (h2 : 2 < p) : PrT p.toNat ∧ (p.toNat : Int) = p ∧ p % 2 = 1 := by
  obtain ⟨k, hk⟩ := hd
  have h1 := D.lo
  have h3 := D.hi
  have h4 := D.md
  have hle : p ≤ 2000 := by
    have := Int.le_of_dvd (show 0 < -d by omega) ⟨-k, by rw [hk, Int.mul_neg]⟩
    omega
  have ho : p % 2 = 1 := by
    rcases Int.emod_two_eq p with h | h
    · exact absurd (Int.dvd_of_emod_eq_zero h) (hp.2 2 (by omega) h2)
    · exact h
  refine ⟨PrT.odd_of (by omega) (by omega) (by omega) ?_ ?_, by omega, ho⟩
  · intro r hr hrp hdv
    refine hp.2 r (by omega) (by omega) ?_
    have : (r : Int) ∣ (p.toNat : Int) := Int.natCast_dvd_natCast.2 hdv
    rwa [show (p.toNat : Int) = p by omega] at this
  · rintro ⟨h5, h6⟩
    have hk0 : k < 0 := by
      refine Int.not_le.1 fun h => ?_
      have := Int.mul_nonneg (show 0 ≤ p by omega) h
      omega
    have hk1 : -3 < k := by
      refine Int.not_le.1 fun h => ?_
      have := Int.mul_le_mul_of_nonneg_left h (show 0 ≤ p by omega)
      omega
    have hk2 : k = -1 ∨ k = -2 := by omega
    rcases hk2 with rfl | rfl <;> omega
theorem chars_kind {d : Int} (D : Dsc d) {c : Int × Int} (hc : c ∈ chars (-d)) :
    (∃ p, c = (1, p) ∧ PrT p.toNat ∧ (p.toNat : Int) = p ∧ p % 2 = 1 ∧ p ∣ d) ∨ (d % 4 = 0 ∧ ∃ k, c = (k, 0) ∧ (k = 2 ∨ k = 3 ∨ k = 4) ∧ twK ((-d / 4 % 8).toNat) k.toNat = true) := by
  have h1 := D.lo
  have h3 := D.hi
  have h4 := D.md
  unfold chars at hc
  rcases List.mem_append.1 hc with hc | hc
  · left
    unfold chP at hc
    obtain ⟨p, hp, rfl⟩ := List.mem_map.1 hc
    obtain ⟨hp1, hp2⟩ := List.mem_filter.1 hp
    simp at hp2
    obtain ⟨q1, q2, q3⟩ := prims_mem (by omega) p hp1
    have hdv : p ∣ d := by
      obtain ⟨k, hk⟩ := prims_dvd hp1
      exact ⟨-k, by rw [Int.mul_neg, ← hk]; omega⟩
    obtain ⟨t1, t2, t3⟩ := prT_dvd D ⟨q1, q3⟩ hdv hp2
    exact ⟨p, rfl, t1, t2, t3, hdv⟩
  · right
    unfold tailC at hc
    split at hc
    · simp at hc
    · rename_i hm
      refine ⟨by omega, ?_⟩
      generalize hn : (-d) / 4 % 8 = n at hc
      have hb : 0 ≤ n ∧ n < 8 := by omega
      (repeat' split at hc) <;> rename_i hcase <;> simp at hc
      · subst hc
        refine ⟨2, rfl, .inl rfl, ?_⟩
        rcases hcase with rfl | rfl | rfl <;> decide
      · subst hc
        subst hcase
        exact ⟨4, rfl, .inr (.inr rfl), by decide⟩
      · subst hc
        subst hcase
        exact ⟨3, rfl, .inr (.inl rfl), by decide⟩
      · subst hcase
        rcases hc with rfl | rfl
        · exact ⟨2, rfl, .inl rfl, by decide⟩
        · exact ⟨3, rfl, .inr (.inl rfl), by decide⟩
theorem cop_odd {v d : Int} (h : Int.gcd v (2 * d) = 1) : v % 2 = 1 := by
  have h3 := gcd_one_of_dvd (Int.dvd_refl v) (show (2 : Int) ∣ 2 * d from ⟨d, rfl⟩) h
  rcases Int.emod_two_eq v with h | h
  · have h4 : (2 : Int) ∣ (Int.gcd v 2 : Int) := Int.dvd_coe_gcd (Int.dvd_of_emod_eq_zero h) (Int.dvd_refl 2)
    rw [h3] at h4
    omega
  · exact h
theorem chi_mul {d : Int} (D : Dsc d) {c : Int × Int} (hc : c ∈ chars (-d)) {v w : Int} (hv : v % 2 = 1) (hw : w % 2 = 1) : chi c (v * w) = chi c v * chi c w := by
  rcases chars_kind D hc with ⟨p, rfl, h1, h2, _, _⟩ | ⟨_, k, rfl, hk, _⟩
  · unfold chi
    simp only [if_true]
    rw [← h2]
    exact h1.mul v w
  · exact chi2_mul hk hv hw
theorem PrT.unit {q : Nat} (h : PrT q) {x : Int} (hx : x % q ≠ 0) : jacS (x % q) q = 1 ∨ jacS (x % q) q = -1 := by
  obtain ⟨h3, g, hl, hj⟩ := h
  have h1 := Int.emod_nonneg x (show (q : Int) ≠ 0 by omega)
  have h2 := Int.emod_lt_of_pos x (show (0 : Int) < q by omega)
  obtain ⟨i, _, he⟩ := hl (x % q).toNat (by omega) (by omega)
  have e : x % q = ((g ^ i % q : Nat) : Int) := by omega
  rw [e, hj]
  split <;> simp
theorem sq_pm {x y z : Int} (h : x = 1 ∨ x = -1) (he : y = z * z) (hy : y = x) : x = 1 := by
  rcases h with h | h
  · exact h
  · have := sq_nonneg z
    omega
theorem chi_eq {d : Int} (D : Dsc d) {c : Int × Int} (hc : c ∈ chars (-d)) {v w X Y : Int} (hv : Int.gcd v (2 * d) = 1) (hw : Int.gcd w (2 * d) = 1) (h : 4 * (v * w) = X * X - d * (Y * Y)) : chi c v = chi c w := by
  have vo := cop_odd hv
  have wo := cop_odd hw
  have h1 := D.lo
  have h3 := D.hi
  have hpm : ∀ u : Int, Int.gcd u (2 * d) = 1 → chi c u = 1 ∨ chi c u = -1 := fun u hu => by
    refine chi_pm (by omega) (by omega) ?_ c hc
    rw [show 2 * -d = -(2 * d) by omega, Int.gcd_neg]; exact hu
  have hpm2 : chi c v * chi c w = 1 ∨ chi c v * chi c w = -1 := by
    rcases hpm v hv with a | a <;> rcases hpm w hw with b | b <;> rw [a, b] <;> simp
  have hone : chi c v * chi c w = 1 := by
    rcases chars_kind D hc with ⟨p, rfl, hp, hp2, hpo, hpd⟩ | ⟨h4, k, rfl, hk, hkn⟩
    · have hm : ∀ a b : Int, chi (1, p) (a * b) = chi (1, p) a * chi (1, p) b := fun a b => by
        unfold chi
        simp only [if_true]
        rw [← hp2]
        exact hp.mul a b
      have hmod : (2 * (2 * (v * w))) % p = X * X % p := by
        obtain ⟨z, hz⟩ := hpd
        have : X * X = 2 * (2 * (v * w)) + p * (z * (Y * Y)) := by
          have : d * (Y * Y) = p * (z * (Y * Y)) := by rw [hz]; grind
          omega
        rw [this, Int.add_mul_emod_self_left]
      have e1 : chi (1, p) (2 * (2 * (v * w))) = chi (1, p) (X * X) := by
        unfold chi
        simp only [if_true]
        rw [hmod]
      have hq3 := hp.q3
      have h2 : chi (1, p) 2 * chi (1, p) 2 = 1 := by
        have : chi (1, p) 2 = 1 ∨ chi (1, p) 2 = -1 := by
          unfold chi
          simp only [if_true]
          have := hp.unit (x := 2) (by rw [hp2]; intro e; have := Int.le_of_dvd (by omega) (Int.dvd_of_emod_eq_zero e); omega)
          rwa [hp2] at this
        rcases this with e | e <;> rw [e] <;> rfl
      rw [hm, hm, hm, hm, ← Int.mul_assoc, h2, Int.one_mul] at e1
      exact sq_pm hpm2 e1.symm.symm rfl
    · rw [← chi2_mul hk vo wo]
      have hX : X % 2 = 0 := by
        rcases Int.emod_two_eq X with e | e
        · exact e
        · exfalso
          have e2 : X * X % 2 = 1 := by rw [Int.mul_emod, e]; rfl
          have e3 : X * X = 4 * (v * w) + d * (Y * Y) := by omega
          have e4 : d * (Y * Y) % 2 = 0 := by rw [Int.mul_emod, show d % 2 = 0 by omega]; simp
          omega
      obtain ⟨x, rfl⟩ : ∃ x, X = 2 * x := ⟨X / 2, by omega⟩
      obtain ⟨n, hn⟩ : ∃ n, d = -(4 * n) := ⟨-d / 4, by omega⟩
      have hvw : v * w = x * x + n * (Y * Y) := by
        have e1 : 2 * x * (2 * x) = 4 * (x * x) := by grind
        have e2 : d * (Y * Y) = -(4 * (n * (Y * Y))) := by rw [hn]; grind
        omega
      have hodd : v * w % 2 = 1 := by rw [Int.mul_emod, vo, wo]; rfl
      have hn8 : (-d / 4 % 8).toNat = (n % 8).toNat := by rw [hn]; omega
      rw [hn8] at hkn
      rw [chi_tw hk hodd, hvw]
      have hr : ((x * x + n * (Y * Y)) % 8).toNat = ((x % 8).toNat * (x % 8).toNat + (n % 8).toNat * ((Y % 8).toNat * (Y % 8).toNat)) % 8 := by
        have e1 := mod8_mul x x
        have e2 := mod8_mul Y Y
        have e3 := mod8_mul n (Y * Y)
        have e4 : ((x * x + n * (Y * Y)) % 8).toNat = ((x * x % 8).toNat + (n * (Y * Y) % 8).toNat) % 8 := by omega
        rw [e4, e1, e3, e2]
        rw [Nat.add_mod, Nat.mod_mod, Nat.mod_mod, ← Nat.add_mod, Nat.add_mod ((x % 8).toNat * (x % 8).toNat) _, Nat.add_mod _ ((n % 8).toNat * ((Y % 8).toNat * (Y % 8).toNat))]
        congr 2
        rw [Nat.mul_mod, Nat.mod_mod, ← Nat.mul_mod]
      rw [hr]
      have q1 := List.all_eq_true.1 tw_form (x % 8).toNat (List.mem_range.2 (by omega))
      have q2 := List.all_eq_true.1 q1 (Y % 8).toNat (List.mem_range.2 (by omega))
      have q3 := List.all_eq_true.1 q2 (n % 8).toNat (List.mem_range.2 (by omega))
      simp only [Bool.or_eq_true, beq_iff_eq] at q3
      rcases q3 with q3 | q3
      · exfalso
        rw [hvw] at hodd
        omega
      · have q4 := List.all_eq_true.1 q3 k.toNat (by rcases hk with rfl | rfl | rfl <;> decide)
        simp only [hkn, Bool.not_true, Bool.false_or, beq_iff_eq] at q4
        exact q4
  rcases hpm v hv with a | a <;> rcases hpm w hw with b | b <;> rw [a, b] at hone ⊢ <;> simp at hone
/-- Every value of the class that is coprime to 2 d has the genus values of the class. -/
theorem vals_gn {d : Int} {f : Fm} (D : Dsc d) (hf : f ∈ clsL d) {v : Int} (hv : prep f v) (hg : Int.gcd v (2 * d) = 1) : vals (-d) v = gnL d f := by
  obtain ⟨x, y, u, h, he⟩ := gn_ex D hf
  rw [← he]
  obtain ⟨_, _, ⟨hxy, hgu⟩, _⟩ := h.pt
  have hu : prep f u := ⟨x, y, hxy, by rw [h.hv, atF_eq]⟩
  rw [← h.hv] at hgu
  obtain ⟨X, Y, hXY⟩ := prep_sq f hv hu
  rw [(PD.of_mem D hf).dc] at hXY
  unfold vals
  exact List.map_congr_left fun c hc => chi_eq D hc hg hgu hXY
theorem gcd_mul_one {a b n : Int} (ha : Int.gcd a n = 1) (hb : Int.gcd b n = 1) : Int.gcd (a * b) n = 1 := by
  obtain ⟨k, l, h1⟩ := bez a n
  obtain ⟨k2, l2, h2⟩ := bez b n
  rw [ha] at h1
  rw [hb] at h2
  apply gcd1_of (k := k * k2) (l := k * a * l2 + l * k2 * b + l * l2 * n)
  have : k * k2 * (a * b) + (k * a * l2 + l * k2 * b + l * l2 * n) * n = (k * a + l * n) * (k2 * b + l2 * n) := by grind
  rw [this, h1, h2]; rfl
/-- Genus values multiply. -/
theorem gn_mul {d : Int} {f g : Fm} (D : Dsc d) (hf : f ∈ clsL d) (hg : g ∈ clsL d) : gnL d (cmp d f g) = List.zipWith (· * ·) (gnL d f) (gnL d g) := by
  have h3 := D.hi
  obtain ⟨x, y, h1, h2⟩ := val_good (PD.of_mem D hf) (n := 2 * d) (by omega)
  obtain ⟨v, hv⟩ : ∃ v, v = f.a * (x * x) + f.b * (x * y) + f.c * (y * y) := ⟨_, rfl⟩
  rw [← hv] at h2
  have hvf : prep f v := ⟨x, y, h1, hv⟩
  have hv0 : v ≠ 0 := fun e => by
    rw [e] at h2
    have : (Int.gcd 0 (2 * d)) = (2 * d).natAbs := Int.gcd_zero_left _
    omega
  obtain ⟨x2, y2, h4, h5⟩ := val_good (PD.of_mem D hg) (n := 2 * d * v) (Int.mul_ne_zero (by omega) hv0)
  obtain ⟨w, hw⟩ : ∃ w, w = g.a * (x2 * x2) + g.b * (x2 * y2) + g.c * (y2 * y2) := ⟨_, rfl⟩
  rw [← hw] at h5
  have hwg : prep g w := ⟨x2, y2, h4, hw⟩
  have hw1 : Int.gcd w (2 * d) = 1 := gcd_one_of_dvd (Int.dvd_refl w) ⟨v, rfl⟩ h5
  have hw2 : Int.gcd w v = 1 := gcd_one_of_dvd (Int.dvd_refl w) ⟨2 * d, by grind⟩ h5
  have hc := cmp_prep D hf hg hvf hwg (by rw [Int.gcd_comm]; exact hw2)
  rw [← vals_gn D hf hvf h2, ← vals_gn D hg hwg hw1, ← vals_gn D (D.cmpm hf hg) hc (gcd_mul_one h2 hw1)]
  unfold vals
  have : ∀ L : List (Int × Int), (∀ c ∈ L, c ∈ chars (-d)) → (L.map fun x => chi x (v * w)) = List.zipWith (· * ·) (L.map fun x => chi x v) (L.map fun x => chi x w) := by
    intro L
    induction L with
    | nil => intro _; rfl
    | cons c L ih =>
      intro h
      rw [List.map_cons, List.map_cons, List.map_cons, List.zipWith_cons_cons, ih (fun c hc => h c (by simp [hc])), chi_mul D (h c (by simp)) (cop_odd h2) (cop_odd hw1)]
  exact this _ fun _ h => h
end

section

/-- The small odd primes. -/
def smP : List Nat := [3, 5, 7, 11, 13, 17, 19, 23, 29, 31, 37, 41, 43]
/-- A character of -m at which v and w differ. -/
def dist (m v w : Nat) : Bool :=
  (smP.any fun p => (m % p).beq 0 && ((jC (v % p + 1) (v % p) p).beq 1 && (jC (w % p + 1) (w % p) p).beq 2 || (jC (v % p + 1) (v % p) p).beq 2 && (jC (w % p + 1) (w % p) p).beq 1)) ||
  ((m % 4).beq 0 && ([2, 3, 4].any fun k => twK (m / 4 % 8) k && !(decide (tw k (v % 8) = tw k (w % 8)))))
/-- The ambiguous reduced forms of the discriminant -m with the first coefficient a. -/
def ambA (m a : Nat) : List (Nat × Nat × Nat) :=
  (if (m % (4 * a)).beq 0 && (a.ble (m / (4 * a))) && (Nat.gcd a (m / (4 * a))).beq 1 then [(a, 0, m / (4 * a))] else []) ++
  ((if ((a * a + m) % (4 * a)).beq 0 && (a.ble ((a * a + m) / (4 * a))) && (Nat.gcd a ((a * a + m) / (4 * a))).beq 1 then [(a, a, (a * a + m) / (4 * a))] else []) ++
  (if m.ble (4 * a * a) then (List.range a).filterMap fun b => if b.blt 1 then none else if (b * b + m).beq (4 * a * a) && (Nat.gcd a b).beq 1 then some (a, b, a) else none else []))
def ambN (m : Nat) : List (Nat × Nat × Nat) := (List.range 26).flatMap fun a => ambA m (a + 1)
def apartV (m : Nat) : List (Nat × Nat) → Bool
  | [] => true
  | x :: l => (l.all fun y => dist m x.1 y.1) && apartV m l
def rowV (r : Nat × List (Nat × Nat)) : Bool :=
  (r.2.all fun x => (0 : Nat).blt x.1 && (Nat.gcd x.1 (2 * r.1)).beq 1 && ((x.2 * x.2 + r.1) % (4 * x.1)).beq 0) && apartV r.1 r.2 && (ambN r.1).length.beq r.2.length
def tabV0 : List (Nat × List (Nat × Nat)) := [
  (3, [(1, 1)]), (4, [(1, 0)]), (7, [(1, 1)]), (8, [(1, 0)]), (11, [(1, 1)]), (12, [(1, 0)]), (15, [(1, 1), (17, 11)]), (16, [(1, 0)]), (19, [(1, 1)]), (20, [(1, 0), (3,
  2)]), (23, [(1, 1)]), (24, [(1, 0), (5, 4)]), (27, [(1, 1)]), (28, [(1, 0)]), (31, [(1, 1)]), (32, [(1, 0), (3, 2)]), (35, [(1, 1), (3, 1)]), (36, [(1, 0), (5, 2)]),
  (39, [(1, 1), (5, 1)]), (40, [(1, 0), (7, 4)]), (43, [(1, 1)]), (44, [(1, 0)]), (47, [(1, 1)]), (48, [(1, 0), (7, 6)]), (51, [(1, 1), (5, 3)]), (52, [(1, 0), (7, 2)]),
  (55, [(1, 1), (7, 1)]), (56, [(1, 0), (3, 2)]), (59, [(1, 1)]), (60, [(1, 0), (17, 12)]), (63, [(1, 1), (11, 5)]), (64, [(1, 0), (5, 4)]), (67, [(1, 1)]), (68, [(1, 0),
  (3, 2)]), (71, [(1, 1)]), (72, [(1, 0), (11, 4)]), (75, [(1, 1), (7, 3)]), (76, [(1, 0)]), (79, [(1, 1)]), (80, [(1, 0), (3, 2)]), (83, [(1, 1)]), (84, [(1, 0), (5, 4),
  (11, 2), (19, 12)]), (87, [(1, 1), (11, 1)]), (88, [(1, 0), (13, 4)]), (91, [(1, 1), (5, 3)]), (92, [(1, 0)]), (95, [(1, 1), (3, 1)]), (96, [(1, 0), (5, 2), (7, 4),
  (11, 6)]), (99, [(1, 1), (5, 1)]), (100, [(1, 0), (13, 2)]), (103, [(1, 1)]), (104, [(1, 0), (5, 4)]), (107, [(1, 1)]), (108, [(1, 0)]), (111, [(1, 1), (5, 3)]), (112,
  [(1, 0), (11, 8)]), (115, [(1, 1), (7, 5)]), (116, [(1, 0), (3, 2)]), (119, [(1, 1), (3, 1)]), (120, [(1, 0), (11, 10), (13, 6), (17, 4)]), (123, [(1, 1), (11, 3)]),
  (124, [(1, 0)]), (127, [(1, 1)]), (128, [(1, 0), (3, 2)]), (131, [(1, 1)]), (132, [(1, 0), (7, 6), (17, 2), (23, 12)]), (135, [(1, 1), (17, 1)]), (136, [(1, 0), (5,
  2)]), (139, [(1, 1)]), (140, [(1, 0), (3, 2)]), (143, [(1, 1), (7, 5)]), (144, [(1, 0), (5, 4)]), (147, [(1, 1), (13, 3)]), (148, [(1, 0), (19, 2)]), (151, [(1, 1)]),
  (152, [(1, 0), (3, 2)]), (155, [(1, 1), (3, 1)]), (156, [(1, 0), (5, 2)]), (159, [(1, 1), (5, 1)]), (160, [(1, 0), (7, 6), (11, 4), (13, 10)]), (163, [(1, 1)]), (164,
  [(1, 0), (3, 2)]), (167, [(1, 1)]), (168, [(1, 0), (13, 12), (17, 6), (23, 4)]), (171, [(1, 1), (5, 3)]), (172, [(1, 0)]), (175, [(1, 1), (23, 3)]), (176, [(1, 0), (3,
  2)]), (179, [(1, 1)]), (180, [(1, 0), (7, 4), (23, 2), (29, 20)]), (183, [(1, 1), (11, 9)]), (184, [(1, 0), (5, 4)]), (187, [(1, 1), (7, 3)]), (188, [(1, 0)]), (191,
  [(1, 1)]), (192, [(1, 0), (7, 2), (13, 4), (19, 6)]), (195, [(1, 1), (7, 1), (11, 5), (17, 3)]), (196, [(1, 0), (5, 2)]), (199, [(1, 1)]), (200, [(1, 0), (3, 2)])]
theorem tabV0_ok : (tabV0.all rowV) = true := by decide +kernel
def tabV1 : List (Nat × List (Nat × Nat)) := [
  (203, [(1, 1), (3, 1)]), (204, [(1, 0), (5, 4)]), (207, [(1, 1), (29, 5)]), (208, [(1, 0), (7, 4)]), (211, [(1, 1)]), (212, [(1, 0), (3, 2)]), (215, [(1, 1), (3, 1)]),
  (216, [(1, 0), (5, 2)]), (219, [(1, 1), (5, 1)]), (220, [(1, 0), (7, 2)]), (223, [(1, 1)]), (224, [(1, 0), (3, 2), (5, 4), (15, 4)]), (227, [(1, 1)]), (228, [(1, 0),
  (11, 6), (29, 2), (31, 12)]), (231, [(1, 1), (5, 3), (13, 9), (29, 1)]), (232, [(1, 0), (31, 4)]), (235, [(1, 1), (13, 5)]), (236, [(1, 0)]), (239, [(1, 1)]), (240,
  [(1, 0), (17, 10), (19, 8), (23, 6)]), (243, [(1, 1)]), (244, [(1, 0), (7, 6)]), (247, [(1, 1), (31, 1)]), (248, [(1, 0), (3, 2)]), (251, [(1, 1)]), (252, [(1, 0), (11,
  10)]), (255, [(1, 1), (7, 5), (11, 3), (47, 11)]), (256, [(1, 0), (5, 2)]), (259, [(1, 1), (5, 1)]), (260, [(1, 0), (3, 2), (11, 2), (33, 2)]), (263, [(1, 1)]), (264,
  [(1, 0), (5, 4), (7, 4), (17, 12)]), (267, [(1, 1), (23, 3)]), (268, [(1, 0)]), (271, [(1, 1)]), (272, [(1, 0), (3, 2)]), (275, [(1, 1), (3, 1)]), (276, [(1, 0), (5,
  2), (7, 2), (35, 2)]), (279, [(1, 1), (5, 1)]), (280, [(1, 0), (17, 14), (19, 10), (37, 4)]), (283, [(1, 1)]), (284, [(1, 0)]), (287, [(1, 1), (3, 1)]), (288, [(1, 0),
  (11, 8), (17, 16), (19, 4)]), (291, [(1, 1), (5, 3)]), (292, [(1, 0), (7, 4)]), (295, [(1, 1), (13, 11)]), (296, [(1, 0), (5, 2)]), (299, [(1, 1), (5, 1)]), (300, [(1,
  0), (7, 6)]), (303, [(1, 1), (11, 7)]), (304, [(1, 0), (7, 2)]), (307, [(1, 1)]), (308, [(1, 0), (3, 2), (13, 2), (39, 2)]), (311, [(1, 1)]), (312, [(1, 0), (19, 12),
  (29, 6), (41, 4)]), (315, [(1, 1), (11, 9), (13, 7), (17, 5)]), (316, [(1, 0)]), (319, [(1, 1), (17, 15)]), (320, [(1, 0), (3, 2), (7, 4), (21, 4)]), (323, [(1, 1), (3,
  1)]), (324, [(1, 0), (5, 4)]), (327, [(1, 1), (11, 5)]), (328, [(1, 0), (7, 6)]), (331, [(1, 1)]), (332, [(1, 0)]), (335, [(1, 1), (3, 1)]), (336, [(1, 0), (5, 2), (11,
  4), (19, 14)]), (339, [(1, 1), (5, 1)]), (340, [(1, 0), (11, 10), (37, 20), (43, 2)]), (343, [(1, 1)]), (344, [(1, 0), (3, 2)]), (347, [(1, 1)]), (348, [(1, 0), (11,
  2)]), (351, [(1, 1), (5, 3)]), (352, [(1, 0), (13, 8), (19, 16), (23, 4)]), (355, [(1, 1), (7, 3)]), (356, [(1, 0), (3, 2)]), (359, [(1, 1)]), (360, [(1, 0), (7, 2),
  (11, 6), (23, 10)]), (363, [(1, 1), (7, 1)]), (364, [(1, 0), (5, 4)]), (367, [(1, 1)]), (368, [(1, 0), (3, 2)]), (371, [(1, 1), (3, 1)]), (372, [(1, 0), (17, 6), (43,
  12), (47, 2)]), (375, [(1, 1), (17, 13)]), (376, [(1, 0), (5, 2)]), (379, [(1, 1)]), (380, [(1, 0), (3, 2)]), (383, [(1, 1)]), (384, [(1, 0), (5, 4), (7, 6), (11,
  10)]), (387, [(1, 1), (11, 3)]), (388, [(1, 0), (7, 2)]), (391, [(1, 1), (5, 3)]), (392, [(1, 0), (3, 2)]), (395, [(1, 1), (3, 1)]), (396, [(1, 0), (5, 2)]), (399, [(1,
  1), (5, 1), (13, 11), (29, 23)]), (400, [(1, 0), (13, 4)])]
theorem tabV1_ok : (tabV1.all rowV) = true := by decide +kernel
def tabV2 : List (Nat × List (Nat × Nat)) := [
  (403, [(1, 1), (11, 9)]), (404, [(1, 0), (3, 2)]), (407, [(1, 1), (13, 3)]), (408, [(1, 0), (23, 12), (37, 6), (53, 4)]), (411, [(1, 1), (5, 3)]), (412, [(1, 0)]),
  (415, [(1, 1), (13, 1)]), (416, [(1, 0), (3, 2), (5, 2), (7, 2)]), (419, [(1, 1)]), (420, [(1, 0), (11, 8), (13, 10), (19, 6), (41, 20), (43, 28), (47, 12), (53, 2)]),
  (423, [(1, 1), (17, 11)]), (424, [(1, 0), (5, 4)]), (427, [(1, 1), (17, 7)]), (428, [(1, 0)]), (431, [(1, 1)]), (432, [(1, 0), (7, 4)]), (435, [(1, 1), (11, 7), (23,
  5), (37, 3)]), (436, [(1, 0), (11, 2)]), (439, [(1, 1)]), (440, [(1, 0), (3, 2), (7, 6), (19, 4)]), (443, [(1, 1)]), (444, [(1, 0), (5, 4)]), (447, [(1, 1), (11, 9)]),
  (448, [(1, 0), (11, 6), (23, 14), (29, 4)]), (451, [(1, 1), (7, 5)]), (452, [(1, 0), (3, 2)]), (455, [(1, 1), (3, 1), (19, 1), (37, 27)]), (456, [(1, 0), (5, 2), (13,
  8), (41, 6)]), (459, [(1, 1), (5, 1)]), (460, [(1, 0), (7, 4)]), (463, [(1, 1)]), (464, [(1, 0), (3, 2)]), (467, [(1, 1)]), (468, [(1, 0), (7, 6), (11, 4), (17, 12)]),
  (471, [(1, 1), (5, 3)]), (472, [(1, 0), (11, 10)]), (475, [(1, 1), (7, 1)]), (476, [(1, 0), (3, 2)]), (479, [(1, 1)]), (480, [(1, 0), (11, 2), (13, 12), (17, 8), (23,
  16), (29, 10), (31, 4), (43, 6)]), (483, [(1, 1), (11, 1), (19, 7), (41, 3)]), (484, [(1, 0), (13, 6)]), (487, [(1, 1)]), (488, [(1, 0), (7, 4)]), (491, [(1, 1)]),
  (492, [(1, 0), (11, 6)]), (495, [(1, 1), (7, 3), (17, 7), (59, 53)]), (496, [(1, 0), (7, 6)]), (499, [(1, 1)]), (500, [(1, 0), (3, 2)]), (503, [(1, 1)]), (504, [(1, 0),
  (5, 4), (13, 4), (23, 18)]), (507, [(1, 1), (7, 5)]), (508, [(1, 0)]), (511, [(1, 1), (5, 3)]), (512, [(1, 0), (3, 2)]), (515, [(1, 1), (3, 1)]), (516, [(1, 0), (5, 2),
  (7, 4), (11, 10)]), (519, [(1, 1), (5, 1)]), (520, [(1, 0), (23, 20), (31, 10), (67, 4)]), (523, [(1, 1)]), (524, [(1, 0)]), (527, [(1, 1), (3, 1)]), (528, [(1, 0), (7,
  2), (17, 4), (23, 22)]), (531, [(1, 1), (5, 3)]), (532, [(1, 0), (13, 12), (47, 28), (67, 2)]), (535, [(1, 1), (7, 5)]), (536, [(1, 0), (3, 2)]), (539, [(1, 1), (3,
  1)]), (540, [(1, 0), (17, 2)]), (543, [(1, 1), (17, 1)]), (544, [(1, 0), (5, 4), (7, 4), (19, 8)]), (547, [(1, 1)]), (548, [(1, 0), (3, 2)]), (551, [(1, 1), (3, 1)]),
  (552, [(1, 0), (7, 6), (11, 8), (29, 12)]), (555, [(1, 1), (13, 11), (29, 5), (47, 3)]), (556, [(1, 0)]), (559, [(1, 1), (5, 1)]), (560, [(1, 0), (3, 2), (11, 10), (13,
  8)]), (563, [(1, 1)]), (564, [(1, 0), (5, 4), (19, 14), (59, 12)]), (567, [(1, 1), (11, 7)]), (568, [(1, 0), (11, 2)]), (571, [(1, 1)]), (572, [(1, 0), (7, 4)]), (575,
  [(1, 1), (3, 1)]), (576, [(1, 0), (5, 2), (13, 10), (17, 6)]), (579, [(1, 1), (5, 1)]), (580, [(1, 0), (7, 6), (11, 6), (17, 10)]), (583, [(1, 1), (19, 5)]), (584, [(1,
  0), (5, 4)]), (587, [(1, 1)]), (588, [(1, 0), (13, 6)]), (591, [(1, 1), (5, 3)]), (592, [(1, 0), (19, 4)]), (595, [(1, 1), (13, 9), (23, 7), (31, 5)]), (596, [(1, 0),
  (3, 2)]), (599, [(1, 1)]), (600, [(1, 0), (7, 4), (11, 4), (53, 6)])]
theorem tabV2_ok : (tabV2.all rowV) = true := by decide +kernel
def tabV3 : List (Nat × List (Nat × Nat)) := [
  (603, [(1, 1), (17, 3)]), (604, [(1, 0)]), (607, [(1, 1)]), (608, [(1, 0), (3, 2), (7, 6), (13, 4)]), (611, [(1, 1), (5, 3)]), (612, [(1, 0), (7, 2), (11, 2), (53,
  36)]), (615, [(1, 1), (7, 1), (11, 1), (23, 11)]), (616, [(1, 0), (5, 2), (17, 8), (29, 14)]), (619, [(1, 1)]), (620, [(1, 0), (3, 2)]), (623, [(1, 1), (3, 1)]), (624,
  [(1, 0), (5, 4), (11, 6), (43, 8)]), (627, [(1, 1), (13, 7), (17, 11), (53, 3)]), (628, [(1, 0), (7, 4)]), (631, [(1, 1)]), (632, [(1, 0), (3, 2)]), (635, [(1, 1), (3,
  1)]), (636, [(1, 0), (5, 2)]), (639, [(1, 1), (5, 1)]), (640, [(1, 0), (7, 2), (11, 8), (13, 6)]), (643, [(1, 1)]), (644, [(1, 0), (3, 2), (5, 4), (11, 4)]), (647, [(1,
  1)]), (648, [(1, 0), (11, 10)]), (651, [(1, 1), (5, 3), (11, 3), (13, 5)]), (652, [(1, 0)]), (655, [(1, 1), (17, 5)]), (656, [(1, 0), (3, 2)]), (659, [(1, 1)]), (660,
  [(1, 0), (13, 4), (19, 10), (29, 6), (53, 20), (59, 44), (67, 12), (83, 2)]), (663, [(1, 1), (7, 3), (23, 21), (47, 29)]), (664, [(1, 0), (5, 4)]), (667, [(1, 1), (11,
  9)]), (668, [(1, 0)]), (671, [(1, 1), (7, 1)]), (672, [(1, 0), (13, 2), (17, 12), (23, 8), (29, 16), (31, 14), (43, 4), (59, 6)]), (675, [(1, 1), (7, 5)]), (676, [(1,
  0), (5, 2)]), (679, [(1, 1), (5, 1)]), (680, [(1, 0), (3, 2), (13, 10), (29, 4)]), (683, [(1, 1)]), (684, [(1, 0), (5, 4)]), (687, [(1, 1), (23, 7)]), (688, [(1, 0),
  (11, 4)]), (691, [(1, 1)]), (692, [(1, 0), (3, 2)]), (695, [(1, 1), (3, 1)]), (696, [(1, 0), (5, 2), (17, 16), (19, 8)]), (699, [(1, 1), (5, 1)]), (700, [(1, 0), (23,
  6)]), (703, [(1, 1), (13, 5)]), (704, [(1, 0), (3, 2), (5, 4), (15, 4)]), (707, [(1, 1), (3, 1)]), (708, [(1, 0), (31, 6), (71, 12), (89, 2)]), (711, [(1, 1), (5, 3)]),
  (712, [(1, 0), (7, 4)]), (715, [(1, 1), (17, 13), (19, 11), (37, 5)]), (716, [(1, 0)]), (719, [(1, 1)]), (720, [(1, 0), (7, 6), (23, 4), (29, 18)]), (723, [(1, 1), (11,
  5)]), (724, [(1, 0), (7, 2)]), (727, [(1, 1)]), (728, [(1, 0), (3, 2), (11, 8), (31, 4)]), (731, [(1, 1), (3, 1)]), (732, [(1, 0), (11, 4)]), (735, [(1, 1), (17, 9),
  (19, 5), (23, 1)]), (736, [(1, 0), (5, 2), (11, 10), (31, 16)]), (739, [(1, 1)]), (740, [(1, 0), (3, 2), (13, 12), (19, 18)]), (743, [(1, 1)]), (744, [(1, 0), (5, 4),
  (11, 2), (13, 6)]), (747, [(1, 1), (11, 1)]), (748, [(1, 0), (7, 6)]), (751, [(1, 1)]), (752, [(1, 0), (3, 2)]), (755, [(1, 1), (3, 1)]), (756, [(1, 0), (5, 2), (11,
  6), (19, 2)]), (759, [(1, 1), (5, 1), (7, 5), (29, 13)]), (760, [(1, 0), (29, 20), (43, 10), (97, 4)]), (763, [(1, 1), (13, 11)]), (764, [(1, 0)]), (767, [(1, 1), (11,
  5)]), (768, [(1, 0), (7, 4), (13, 8), (19, 12)]), (771, [(1, 1), (5, 3)]), (772, [(1, 0), (11, 8)]), (775, [(1, 1), (7, 3)]), (776, [(1, 0), (5, 2)]), (779, [(1, 1),
  (3, 1)]), (780, [(1, 0), (7, 2), (11, 10), (17, 6)]), (783, [(1, 1), (11, 3)]), (784, [(1, 0), (5, 4)]), (787, [(1, 1)]), (788, [(1, 0), (3, 2)]), (791, [(1, 1), (3,
  1)]), (792, [(1, 0), (13, 12), (23, 6), (29, 22)]), (795, [(1, 1), (17, 15), (41, 5), (67, 3)]), (796, [(1, 0)]), (799, [(1, 1), (5, 1)]), (800, [(1, 0), (3, 2), (11,
  6), (17, 4)])]
theorem tabV3_ok : (tabV3.all rowV) = true := by decide +kernel
def tabV4 : List (Nat × List (Nat × Nat)) := [
  (803, [(1, 1), (7, 3)]), (804, [(1, 0), (5, 4), (7, 6), (23, 22)]), (807, [(1, 1), (17, 3)]), (808, [(1, 0), (7, 2)]), (811, [(1, 1)]), (812, [(1, 0), (3, 2)]), (815,
  [(1, 1), (3, 1)]), (816, [(1, 0), (5, 2), (11, 8), (19, 18)]), (819, [(1, 1), (5, 1), (19, 13), (23, 3)]), (820, [(1, 0), (11, 4), (13, 8), (23, 10)]), (823, [(1, 1)]),
  (824, [(1, 0), (3, 2)]), (827, [(1, 1)]), (828, [(1, 0), (29, 10)]), (831, [(1, 1), (5, 3)]), (832, [(1, 0), (7, 6), (11, 2), (29, 26)]), (835, [(1, 1), (13, 7)]),
  (836, [(1, 0), (3, 2), (7, 2), (13, 10)]), (839, [(1, 1)]), (840, [(1, 0), (29, 28), (31, 20), (37, 14), (41, 12), (47, 10), (73, 6), (107, 4)]), (843, [(1, 1), (11,
  9)]), (844, [(1, 0)]), (847, [(1, 1), (29, 9)]), (848, [(1, 0), (3, 2)]), (851, [(1, 1), (5, 3)]), (852, [(1, 0), (7, 4), (17, 10), (83, 12)]), (855, [(1, 1), (11, 5),
  (13, 9), (53, 29)]), (856, [(1, 0), (5, 2)]), (859, [(1, 1)]), (860, [(1, 0), (3, 2)]), (863, [(1, 1)]), (864, [(1, 0), (5, 4), (7, 2), (11, 4)]), (867, [(1, 1), (7,
  1)]), (868, [(1, 0), (11, 10), (13, 4), (19, 14)]), (871, [(1, 1), (5, 3)]), (872, [(1, 0), (13, 8)]), (875, [(1, 1), (3, 1)]), (876, [(1, 0), (5, 2)]), (879, [(1, 1),
  (5, 1)]), (880, [(1, 0), (7, 4), (13, 2), (31, 22)]), (883, [(1, 1)]), (884, [(1, 0), (3, 2), (5, 4), (15, 4)]), (887, [(1, 1)]), (888, [(1, 0), (11, 6), (13, 10), (17,
  8)]), (891, [(1, 1), (5, 3)]), (892, [(1, 0)]), (895, [(1, 1), (7, 1)]), (896, [(1, 0), (3, 2), (5, 2), (15, 2)]), (899, [(1, 1), (3, 1)]), (900, [(1, 0), (13, 6), (17,
  16), (29, 12)]), (903, [(1, 1), (17, 7), (19, 3), (29, 5)]), (904, [(1, 0), (5, 4)]), (907, [(1, 1)]), (908, [(1, 0)]), (911, [(1, 1)]), (912, [(1, 0), (11, 10), (29,
  4), (31, 24)]), (915, [(1, 1), (7, 3), (11, 3), (47, 5)]), (916, [(1, 0), (7, 6)]), (919, [(1, 1)]), (920, [(1, 0), (3, 2), (7, 2), (11, 2)]), (923, [(1, 1), (7, 1)]),
  (924, [(1, 0), (5, 4), (13, 8), (29, 2)]), (927, [(1, 1), (17, 5)]), (928, [(1, 0), (31, 8), (37, 16), (59, 4)]), (931, [(1, 1), (5, 3)]), (932, [(1, 0), (3, 2)]),
  (935, [(1, 1), (3, 1), (13, 1), (29, 15)]), (936, [(1, 0), (5, 2), (7, 4), (17, 4)]), (939, [(1, 1), (5, 1)]), (940, [(1, 0), (13, 10)]), (943, [(1, 1), (7, 3)]), (944,
  [(1, 0), (3, 2)]), (947, [(1, 1)]), (948, [(1, 0), (7, 2), (11, 8), (17, 2)]), (951, [(1, 1), (5, 3)]), (952, [(1, 0), (11, 4), (13, 6), (31, 28)]), (955, [(1, 1), (7,
  5)]), (956, [(1, 0)]), (959, [(1, 1), (3, 1)]), (960, [(1, 0), (17, 14), (19, 16), (23, 12), (31, 30), (53, 10), (61, 4), (83, 6)]), (963, [(1, 1), (11, 7)]), (964,
  [(1, 0), (7, 4)]), (967, [(1, 1)]), (968, [(1, 0), (17, 16)]), (971, [(1, 1)]), (972, [(1, 0)]), (975, [(1, 1), (11, 9), (43, 33), (47, 23)]), (976, [(1, 0), (7, 2)]),
  (979, [(1, 1), (7, 1)]), (980, [(1, 0), (3, 2), (23, 20), (41, 2)]), (983, [(1, 1)]), (984, [(1, 0), (5, 4), (13, 2), (17, 6)]), (987, [(1, 1), (11, 5), (13, 1), (17,
  13)]), (988, [(1, 0), (31, 2)]), (991, [(1, 1)]), (992, [(1, 0), (3, 2), (7, 4), (13, 10)]), (995, [(1, 1), (3, 1)]), (996, [(1, 0), (5, 2), (11, 4), (19, 12)]), (999,
  [(1, 1), (5, 1)]), (1000, [(1, 0), (7, 6)])]
theorem tabV4_ok : (tabV4.all rowV) = true := by decide +kernel
def tabV5 : List (Nat × List (Nat × Nat)) := [
  (1003, [(1, 1), (11, 3)]), (1004, [(1, 0)]), (1007, [(1, 1), (3, 1)]), (1008, [(1, 0), (11, 2), (29, 6), (43, 14)]), (1011, [(1, 1), (5, 3)]), (1012, [(1, 0), (17, 12),
  (67, 44), (127, 2)]), (1015, [(1, 1), (13, 5), (19, 7), (37, 13)]), (1016, [(1, 0), (3, 2)]), (1019, [(1, 1)]), (1020, [(1, 0), (7, 4), (11, 6), (47, 22)]), (1023, [(1,
  1), (13, 11), (23, 9), (41, 17)]), (1024, [(1, 0), (5, 4)]), (1027, [(1, 1), (7, 3)]), (1028, [(1, 0), (3, 2)]), (1031, [(1, 1)]), (1032, [(1, 0), (7, 2), (23, 16),
  (89, 6)]), (1035, [(1, 1), (7, 1), (17, 11), (29, 3)]), (1036, [(1, 0), (5, 2)]), (1039, [(1, 1)]), (1040, [(1, 0), (3, 2), (11, 4), (33, 4)]), (1043, [(1, 1), (3,
  1)]), (1044, [(1, 0), (5, 4), (11, 10), (19, 18)]), (1047, [(1, 1), (11, 3)]), (1048, [(1, 0), (19, 4)]), (1051, [(1, 1)]), (1052, [(1, 0)]), (1055, [(1, 1), (3, 1)]),
  (1056, [(1, 0), (5, 2), (7, 6), (13, 6), (17, 10), (23, 18), (35, 8), (67, 4)]), (1059, [(1, 1), (5, 1)]), (1060, [(1, 0), (7, 2), (19, 2), (73, 20)]), (1063, [(1,
  1)]), (1064, [(1, 0), (3, 2), (5, 4), (15, 4)]), (1067, [(1, 1), (7, 5)]), (1068, [(1, 0), (23, 6)]), (1071, [(1, 1), (5, 3), (31, 13), (53, 25)]), (1072, [(1, 0), (19,
  12)]), (1075, [(1, 1), (13, 11)]), (1076, [(1, 0), (3, 2)]), (1079, [(1, 1), (5, 1)]), (1080, [(1, 0), (11, 8), (13, 8), (17, 12)]), (1083, [(1, 1), (13, 3)]), (1084,
  [(1, 0)]), (1087, [(1, 1)]), (1088, [(1, 0), (3, 2), (7, 2), (13, 2)]), (1091, [(1, 1)]), (1092, [(1, 0), (17, 8), (23, 14), (47, 6), (67, 28), (73, 52), (103, 12),
  (137, 2)]), (1095, [(1, 1), (7, 5), (11, 7), (23, 3)]), (1096, [(1, 0), (5, 2)]), (1099, [(1, 1), (5, 1)]), (1100, [(1, 0), (3, 2)]), (1103, [(1, 1)]), (1104, [(1, 0),
  (5, 4), (7, 4), (35, 4)]), (1107, [(1, 1), (11, 9)]), (1108, [(1, 0), (11, 6)]), (1111, [(1, 1), (7, 3)]), (1112, [(1, 0), (3, 2)]), (1115, [(1, 1), (3, 1)]), (1116,
  [(1, 0), (5, 2)]), (1119, [(1, 1), (5, 1)]), (1120, [(1, 0), (17, 6), (19, 18), (37, 8), (43, 16), (47, 14), (61, 10), (71, 4)]), (1123, [(1, 1)]), (1124, [(1, 0), (3,
  2)]), (1127, [(1, 1), (3, 1)]), (1128, [(1, 0), (11, 4), (13, 4), (53, 12)]), (1131, [(1, 1), (5, 3), (17, 5), (19, 3)]), (1132, [(1, 0)]), (1135, [(1, 1), (13, 3)]),
  (1136, [(1, 0), (3, 2)]), (1139, [(1, 1), (3, 1)]), (1140, [(1, 0), (7, 6), (11, 2), (13, 2), (17, 4), (29, 22), (31, 10), (107, 12)]), (1143, [(1, 1), (11, 1)]),
  (1144, [(1, 0), (5, 4), (7, 2), (29, 4)]), (1147, [(1, 1), (13, 7)]), (1148, [(1, 0), (3, 2)]), (1151, [(1, 1)]), (1152, [(1, 0), (11, 6), (17, 2), (19, 8)]), (1155,
  [(1, 1), (17, 1), (19, 17), (23, 15), (29, 11), (43, 7), (59, 5), (97, 3)]), (1156, [(1, 0), (5, 2)]), (1159, [(1, 1), (29, 1)]), (1160, [(1, 0), (3, 2), (7, 4), (21,
  4)]), (1163, [(1, 1)]), (1164, [(1, 0), (5, 4)]), (1167, [(1, 1), (23, 11)]), (1168, [(1, 0), (7, 6)]), (1171, [(1, 1)]), (1172, [(1, 0), (3, 2)]), (1175, [(1, 1), (3,
  1)]), (1176, [(1, 0), (5, 2), (11, 10), (31, 8)]), (1179, [(1, 1), (5, 1)]), (1180, [(1, 0), (13, 4)]), (1183, [(1, 1), (11, 7)]), (1184, [(1, 0), (3, 2), (5, 4), (15,
  4)]), (1187, [(1, 1)]), (1188, [(1, 0), (7, 4), (17, 6), (23, 10)]), (1191, [(1, 1), (5, 3)]), (1192, [(1, 0), (13, 2)]), (1195, [(1, 1), (7, 3)]), (1196, [(1, 0), (5,
  2)]), (1199, [(1, 1), (13, 7)]), (1200, [(1, 0), (7, 2), (13, 10), (19, 4)])]
theorem tabV5_ok : (tabV5.all rowV) = true := by decide +kernel
def tabV6 : List (Nat × List (Nat × Nat)) := [
  (1203, [(1, 1), (17, 15)]), (1204, [(1, 0), (5, 4), (31, 6), (71, 28)]), (1207, [(1, 1), (7, 5)]), (1208, [(1, 0), (3, 2)]), (1211, [(1, 1), (3, 1)]), (1212, [(1, 0),
  (11, 8)]), (1215, [(1, 1), (17, 3)]), (1216, [(1, 0), (5, 2), (7, 4), (11, 4)]), (1219, [(1, 1), (5, 1)]), (1220, [(1, 0), (3, 2), (11, 10), (17, 2)]), (1223, [(1,
  1)]), (1224, [(1, 0), (5, 4), (7, 6), (35, 6)]), (1227, [(1, 1), (11, 7)]), (1228, [(1, 0)]), (1231, [(1, 1)]), (1232, [(1, 0), (3, 2), (13, 4), (39, 4)]), (1235, [(1,
  1), (3, 1), (7, 5), (21, 5)]), (1236, [(1, 0), (5, 2), (23, 12), (31, 2)]), (1239, [(1, 1), (5, 1), (11, 9), (13, 3)]), (1240, [(1, 0), (11, 6), (17, 16), (67, 10)]),
  (1243, [(1, 1), (17, 7)]), (1244, [(1, 0)]), (1247, [(1, 1), (3, 1)]), (1248, [(1, 0), (19, 14), (29, 12), (37, 26), (41, 8), (47, 16), (79, 4), (107, 6)]), (1251, [(1,
  1), (5, 3)]), (1252, [(1, 0), (7, 6)]), (1255, [(1, 1), (37, 15)]), (1256, [(1, 0), (5, 2)]), (1259, [(1, 1)]), (1260, [(1, 0), (11, 4), (13, 12), (17, 10)]), (1263,
  [(1, 1), (23, 5)]), (1264, [(1, 0), (11, 10)]), (1267, [(1, 1), (17, 5)]), (1268, [(1, 0), (3, 2)]), (1271, [(1, 1), (3, 1)]), (1272, [(1, 0), (11, 2), (19, 18), (23,
  4)]), (1275, [(1, 1), (11, 1), (13, 5), (23, 17)]), (1276, [(1, 0), (17, 4)]), (1279, [(1, 1)]), (1280, [(1, 0), (3, 2), (7, 6), (21, 8)]), (1283, [(1, 1)]), (1284,
  [(1, 0), (5, 4), (7, 2), (11, 6)]), (1287, [(1, 1), (7, 1), (23, 1), (41, 5)]), (1288, [(1, 0), (13, 8), (17, 2), (37, 28)]), (1291, [(1, 1)]), (1292, [(1, 0), (3,
  2)]), (1295, [(1, 1), (3, 1), (19, 15), (23, 19)]), (1296, [(1, 0), (5, 2)]), (1299, [(1, 1), (5, 1)]), (1300, [(1, 0), (7, 4), (11, 8), (17, 14)]), (1303, [(1, 1)]),
  (1304, [(1, 0), (3, 2)]), (1307, [(1, 1)]), (1308, [(1, 0), (11, 10)]), (1311, [(1, 1), (5, 3), (29, 9), (37, 13)]), (1312, [(1, 0), (7, 2), (13, 12), (43, 8)]), (1315,
  [(1, 1), (7, 1)]), (1316, [(1, 0), (3, 2), (5, 2), (11, 2)]), (1319, [(1, 1)]), (1320, [(1, 0), (37, 30), (41, 22), (43, 20), (61, 12), (71, 10), (113, 6), (167, 4)]),
  (1323, [(1, 1), (13, 9)]), (1324, [(1, 0)]), (1327, [(1, 1)]), (1328, [(1, 0), (3, 2)]), (1331, [(1, 1)]), (1332, [(1, 0), (19, 6), (23, 18), (41, 12)]), (1335, [(1,
  1), (7, 3), (17, 5), (29, 17)]), (1336, [(1, 0), (5, 2)]), (1339, [(1, 1), (5, 1)]), (1340, [(1, 0), (3, 2)]), (1343, [(1, 1), (3, 1)]), (1344, [(1, 0), (5, 4), (11,
  8), (17, 4), (19, 10), (23, 6), (31, 12), (37, 32)]), (1347, [(1, 1), (17, 9)]), (1348, [(1, 0), (11, 4)]), (1351, [(1, 1), (5, 3)]), (1352, [(1, 0), (11, 10)]), (1355,
  [(1, 1), (3, 1)]), (1356, [(1, 0), (5, 2)]), (1359, [(1, 1), (5, 1)]), (1360, [(1, 0), (11, 2), (37, 34), (43, 4)]), (1363, [(1, 1), (11, 1)]), (1364, [(1, 0), (3, 2),
  (7, 6), (13, 12)]), (1367, [(1, 1)]), (1368, [(1, 0), (13, 6), (17, 14), (29, 16)]), (1371, [(1, 1), (5, 3)]), (1372, [(1, 0)]), (1375, [(1, 1), (7, 5)]), (1376, [(1,
  0), (3, 2), (5, 2), (15, 2)]), (1379, [(1, 1), (3, 1)]), (1380, [(1, 0), (19, 8), (37, 10), (59, 6), (83, 60), (89, 20), (127, 12), (173, 2)]), (1383, [(1, 1), (11,
  5)]), (1384, [(1, 0), (5, 4)]), (1387, [(1, 1), (13, 11)]), (1388, [(1, 0)]), (1391, [(1, 1), (5, 3)]), (1392, [(1, 0), (7, 6), (11, 4), (17, 6)]), (1395, [(1, 1), (13,
  3), (17, 13), (41, 9)]), (1396, [(1, 0), (7, 2)]), (1399, [(1, 1)]), (1400, [(1, 0), (3, 2), (19, 14), (23, 16)])]
theorem tabV6_ok : (tabV6.all rowV) = true := by decide +kernel
def tabV7 : List (Nat × List (Nat × Nat)) := [
  (1403, [(1, 1), (7, 5)]), (1404, [(1, 0), (5, 4)]), (1407, [(1, 1), (11, 1), (13, 7), (17, 15)]), (1408, [(1, 0), (13, 10), (19, 6), (23, 8)]), (1411, [(1, 1), (5,
  3)]), (1412, [(1, 0), (3, 2)]), (1415, [(1, 1), (3, 1)]), (1416, [(1, 0), (5, 2), (11, 6), (13, 12)]), (1419, [(1, 1), (5, 1), (7, 3), (17, 3)]), (1420, [(1, 0), (7,
  6)]), (1423, [(1, 1)]), (1424, [(1, 0), (3, 2)]), (1427, [(1, 1)]), (1428, [(1, 0), (19, 4), (29, 14), (61, 6), (79, 28), (89, 68), (131, 12), (179, 2)]), (1431, [(1,
  1), (5, 3)]), (1432, [(1, 0), (11, 8)]), (1435, [(1, 1), (19, 3), (53, 7), (73, 5)]), (1436, [(1, 0)]), (1439, [(1, 1)]), (1440, [(1, 0), (7, 4), (11, 10), (13, 4),
  (19, 2), (23, 20), (41, 6), (53, 16)]), (1443, [(1, 1), (11, 3), (17, 11), (19, 1)]), (1444, [(1, 0), (13, 8)]), (1447, [(1, 1)]), (1448, [(1, 0), (7, 6)]), (1451, [(1,
  1)]), (1452, [(1, 0), (7, 2)]), (1455, [(1, 1), (7, 1), (29, 13), (47, 7)]), (1456, [(1, 0), (5, 2), (19, 8), (23, 4)]), (1459, [(1, 1)]), (1460, [(1, 0), (3, 2), (11,
  6), (13, 10)]), (1463, [(1, 1), (3, 1), (17, 13), (29, 25)]), (1464, [(1, 0), (5, 4), (17, 10), (37, 4)]), (1467, [(1, 1), (41, 3)]), (1468, [(1, 0)]), (1471, [(1,
  1)]), (1472, [(1, 0), (3, 2), (13, 6), (31, 4)]), (1475, [(1, 1), (3, 1)]), (1476, [(1, 0), (5, 2), (7, 6), (11, 8)]), (1479, [(1, 1), (5, 1), (31, 3), (47, 5)]),
  (1480, [(1, 0), (7, 2), (17, 4), (29, 12)]), (1483, [(1, 1)]), (1484, [(1, 0), (3, 2)]), (1487, [(1, 1)]), (1488, [(1, 0), (17, 12), (43, 24), (47, 4)]), (1491, [(1,
  1), (5, 3), (11, 7), (13, 11)]), (1492, [(1, 0), (11, 2)]), (1495, [(1, 1), (11, 1), (17, 1), (47, 3)]), (1496, [(1, 0), (3, 2), (7, 4), (13, 8)]), (1499, [(1, 1)]),
  (1500, [(1, 0), (17, 8)]), (1503, [(1, 1), (11, 9)]), (1504, [(1, 0), (5, 4), (7, 6), (11, 6)]), (1507, [(1, 1), (13, 1)]), (1508, [(1, 0), (3, 2), (7, 2), (21, 2)]),
  (1511, [(1, 1)]), (1512, [(1, 0), (13, 10), (17, 16), (23, 12)]), (1515, [(1, 1), (7, 5), (11, 5), (17, 7)]), (1516, [(1, 0)]), (1519, [(1, 1), (5, 1)]), (1520, [(1,
  0), (3, 2), (11, 8), (13, 12)]), (1523, [(1, 1)]), (1524, [(1, 0), (5, 4), (7, 4), (11, 4)]), (1527, [(1, 1), (41, 21)]), (1528, [(1, 0), (11, 10)]), (1531, [(1, 1)]),
  (1532, [(1, 0)]), (1535, [(1, 1), (3, 1)]), (1536, [(1, 0), (5, 2), (7, 2), (11, 2)]), (1539, [(1, 1), (5, 1)]), (1540, [(1, 0), (23, 22), (31, 14), (41, 10), (79, 44),
  (83, 28), (97, 20), (193, 2)]), (1543, [(1, 1)]), (1544, [(1, 0), (5, 4)]), (1547, [(1, 1), (3, 1), (11, 9), (19, 7)]), (1548, [(1, 0), (11, 6)]), (1551, [(1, 1), (5,
  3), (13, 3), (17, 9)]), (1552, [(1, 0), (7, 4)]), (1555, [(1, 1), (17, 3)]), (1556, [(1, 0), (3, 2)]), (1559, [(1, 1)]), (1560, [(1, 0), (7, 6), (17, 2), (19, 6), (29,
  8), (41, 30), (43, 26), (83, 10)]), (1563, [(1, 1), (17, 1)]), (1564, [(1, 0), (5, 4)]), (1567, [(1, 1)]), (1568, [(1, 0), (3, 2), (11, 4), (17, 8)]), (1571, [(1, 1)]),
  (1572, [(1, 0), (11, 10), (17, 14), (19, 10)]), (1575, [(1, 1), (11, 3), (23, 9), (37, 33)]), (1576, [(1, 0), (5, 2)]), (1579, [(1, 1)]), (1580, [(1, 0), (3, 2)]),
  (1583, [(1, 1)]), (1584, [(1, 0), (5, 4), (23, 16), (31, 20)]), (1587, [(1, 1), (7, 3)]), (1588, [(1, 0), (7, 6)]), (1591, [(1, 1), (5, 3)]), (1592, [(1, 0), (3, 2)]),
  (1595, [(1, 1), (3, 1), (7, 1), (19, 1)]), (1596, [(1, 0), (5, 2), (13, 4), (29, 12)]), (1599, [(1, 1), (5, 1), (7, 5), (17, 13)]), (1600, [(1, 0), (13, 8), (17, 10),
  (29, 16)])]
theorem tabV7_ok : (tabV7.all rowV) = true := by decide +kernel
def tabV8 : List (Nat × List (Nat × Nat)) := [
  (1603, [(1, 1), (13, 3)]), (1604, [(1, 0), (3, 2)]), (1607, [(1, 1)]), (1608, [(1, 0), (7, 4), (11, 8), (23, 18)]), (1611, [(1, 1), (5, 3)]), (1612, [(1, 0), (11, 4)]),
  (1615, [(1, 1), (7, 3), (13, 7), (29, 3)]), (1616, [(1, 0), (3, 2)]), (1619, [(1, 1)]), (1620, [(1, 0), (7, 2), (23, 6), (29, 2)]), (1623, [(1, 1), (11, 7)]), (1624,
  [(1, 0), (5, 4), (11, 2), (17, 12)]), (1627, [(1, 1)]), (1628, [(1, 0), (13, 6)]), (1631, [(1, 1), (3, 1)]), (1632, [(1, 0), (23, 22), (37, 12), (41, 34), (53, 8), (59,
  16), (103, 4), (139, 6)]), (1635, [(1, 1), (11, 9), (13, 9), (83, 5)]), (1636, [(1, 0), (7, 4)]), (1639, [(1, 1), (13, 5)]), (1640, [(1, 0), (3, 2), (23, 4), (29,
  10)]), (1643, [(1, 1), (3, 1)]), (1644, [(1, 0), (5, 4)]), (1647, [(1, 1), (11, 5)]), (1648, [(1, 0), (7, 2)]), (1651, [(1, 1), (5, 3)]), (1652, [(1, 0), (3, 2), (11,
  8), (13, 8)]), (1655, [(1, 1), (3, 1)]), (1656, [(1, 0), (5, 2), (19, 4), (41, 36)]), (1659, [(1, 1), (5, 1), (29, 9), (61, 7)]), (1660, [(1, 0), (13, 2)]), (1663, [(1,
  1)]), (1664, [(1, 0), (3, 2), (5, 4), (7, 4)]), (1667, [(1, 1)]), (1668, [(1, 0), (11, 2), (17, 10), (19, 2)]), (1671, [(1, 1), (5, 3)]), (1672, [(1, 0), (7, 6), (31,
  8), (41, 38)]), (1675, [(1, 1), (17, 5)]), (1676, [(1, 0)]), (1679, [(1, 1), (5, 1)]), (1680, [(1, 0), (11, 6), (13, 6), (19, 12), (41, 40), (43, 30), (47, 24), (53,
  4)]), (1683, [(1, 1), (7, 5), (29, 17), (47, 3)]), (1684, [(1, 0), (19, 8)]), (1687, [(1, 1), (13, 9)]), (1688, [(1, 0), (3, 2)]), (1691, [(1, 1), (3, 1)]), (1692, [(1,
  0), (17, 12)]), (1695, [(1, 1), (29, 25), (37, 9), (53, 1)]), (1696, [(1, 0), (5, 2), (11, 8), (23, 12)]), (1699, [(1, 1)]), (1700, [(1, 0), (3, 2), (11, 4), (13, 4)]),
  (1703, [(1, 1), (19, 11)]), (1704, [(1, 0), (5, 4), (7, 2), (11, 10)]), (1707, [(1, 1), (11, 3)]), (1708, [(1, 0), (17, 14)]), (1711, [(1, 1), (11, 7)]), (1712, [(1,
  0), (3, 2)]), (1715, [(1, 1), (3, 1)]), (1716, [(1, 0), (5, 2), (17, 16), (23, 20), (31, 12), (43, 2), (73, 6), (83, 44)]), (1719, [(1, 1), (5, 1)]), (1720, [(1, 0),
  (7, 4), (13, 10), (19, 16)]), (1723, [(1, 1)]), (1724, [(1, 0)]), (1727, [(1, 1), (7, 3)]), (1728, [(1, 0), (7, 6), (13, 12), (19, 18)]), (1731, [(1, 1), (5, 3)]),
  (1732, [(1, 0), (7, 2)]), (1735, [(1, 1), (7, 1)]), (1736, [(1, 0), (3, 2), (5, 2), (15, 2)]), (1739, [(1, 1), (5, 1)]), (1740, [(1, 0), (11, 8), (23, 10), (37, 6)]),
  (1743, [(1, 1), (13, 5), (17, 5), (53, 35)]), (1744, [(1, 0), (11, 4)]), (1747, [(1, 1)]), (1748, [(1, 0), (3, 2), (7, 4), (21, 4)]), (1751, [(1, 1), (3, 1)]), (1752,
  [(1, 0), (13, 4), (17, 4), (149, 6)]), (1755, [(1, 1), (7, 3), (11, 7), (17, 9)]), (1756, [(1, 0)]), (1759, [(1, 1)]), (1760, [(1, 0), (3, 2), (7, 2), (17, 12), (19,
  8), (21, 2), (31, 10), (37, 4)]), (1763, [(1, 1), (3, 1)]), (1764, [(1, 0), (5, 4), (13, 2), (29, 18)]), (1767, [(1, 1), (11, 9), (13, 1), (41, 23)]), (1768, [(1, 0),
  (11, 6), (23, 16), (47, 26)]), (1771, [(1, 1), (5, 3), (13, 7), (43, 11)]), (1772, [(1, 0)]), (1775, [(1, 1), (3, 1)]), (1776, [(1, 0), (5, 2), (7, 4), (23, 8)]),
  (1779, [(1, 1), (5, 1)]), (1780, [(1, 0), (13, 12), (19, 14), (47, 10)]), (1783, [(1, 1)]), (1784, [(1, 0), (3, 2)]), (1787, [(1, 1)]), (1788, [(1, 0), (11, 4)]),
  (1791, [(1, 1), (5, 3)]), (1792, [(1, 0), (11, 10), (23, 18), (29, 8)]), (1795, [(1, 1), (7, 5)]), (1796, [(1, 0), (3, 2)]), (1799, [(1, 1), (3, 1)]), (1800, [(1, 0),
  (11, 2), (17, 6), (43, 36)])]
theorem tabV8_ok : (tabV8.all rowV) = true := by decide +kernel
def tabV9 : List (Nat × List (Nat × Nat)) := [
  (1803, [(1, 1), (11, 1)]), (1804, [(1, 0), (7, 4)]), (1807, [(1, 1), (19, 13)]), (1808, [(1, 0), (3, 2)]), (1811, [(1, 1)]), (1812, [(1, 0), (7, 6), (11, 6), (41,
  22)]), (1815, [(1, 1), (17, 15), (19, 3), (23, 5)]), (1816, [(1, 0), (5, 2)]), (1819, [(1, 1), (5, 1)]), (1820, [(1, 0), (3, 2), (19, 2), (37, 20)]), (1823, [(1, 1)]),
  (1824, [(1, 0), (5, 4), (13, 10), (23, 4), (31, 6), (41, 12), (43, 38), (59, 8)]), (1827, [(1, 1), (17, 3), (19, 15), (23, 17)]), (1828, [(1, 0), (11, 8)]), (1831, [(1,
  1)]), (1832, [(1, 0), (7, 4)]), (1835, [(1, 1), (3, 1)]), (1836, [(1, 0), (5, 2)]), (1839, [(1, 1), (5, 1)]), (1840, [(1, 0), (7, 6), (17, 8), (31, 12)]), (1843, [(1,
  1), (13, 9)]), (1844, [(1, 0), (3, 2)]), (1847, [(1, 1)]), (1848, [(1, 0), (43, 42), (47, 28), (53, 22), (73, 14), (83, 12), (157, 6), (233, 4)]), (1851, [(1, 1), (5,
  3)]), (1852, [(1, 0)]), (1855, [(1, 1), (13, 11), (19, 11), (23, 13)]), (1856, [(1, 0), (3, 2), (5, 2), (15, 2)]), (1859, [(1, 1), (5, 1)]), (1860, [(1, 0), (7, 4),
  (13, 8), (23, 16), (29, 24), (59, 38), (79, 6), (113, 20)]), (1863, [(1, 1), (29, 15)]), (1864, [(1, 0), (5, 4)]), (1867, [(1, 1)]), (1868, [(1, 0)]), (1871, [(1, 1)]),
  (1872, [(1, 0), (7, 2), (11, 8), (17, 10)]), (1875, [(1, 1), (7, 1)]), (1876, [(1, 0), (5, 2), (11, 4), (19, 10)]), (1879, [(1, 1)]), (1880, [(1, 0), (3, 2), (11, 10),
  (23, 12)]), (1883, [(1, 1), (3, 1)]), (1884, [(1, 0), (5, 4)]), (1887, [(1, 1), (11, 7), (31, 29), (59, 1)]), (1888, [(1, 0), (7, 4), (11, 2), (13, 6)]), (1891, [(1,
  1), (11, 1)]), (1892, [(1, 0), (3, 2), (29, 14), (79, 2)]), (1895, [(1, 1), (3, 1)]), (1896, [(1, 0), (5, 2), (7, 6), (17, 12)]), (1899, [(1, 1), (5, 1)]), (1900, [(1,
  0), (7, 2)]), (1903, [(1, 1), (7, 1)]), (1904, [(1, 0), (3, 2), (5, 4), (15, 4)]), (1907, [(1, 1)]), (1908, [(1, 0), (17, 8), (19, 12), (23, 22)]), (1911, [(1, 1), (5,
  3), (11, 5), (55, 17)]), (1912, [(1, 0), (13, 8)]), (1915, [(1, 1), (13, 3)]), (1916, [(1, 0)]), (1919, [(1, 1), (3, 1)]), (1920, [(1, 0), (11, 4), (13, 2), (17, 16),
  (23, 14), (29, 20), (31, 8), (43, 12)]), (1923, [(1, 1), (17, 7)]), (1924, [(1, 0), (5, 4), (7, 6), (23, 10)]), (1927, [(1, 1), (11, 3)]), (1928, [(1, 0), (7, 2)]),
  (1931, [(1, 1)]), (1932, [(1, 0), (11, 2), (19, 14), (41, 6)]), (1935, [(1, 1), (7, 5), (11, 1), (77, 23)]), (1936, [(1, 0), (13, 12)]), (1939, [(1, 1), (5, 1)]),
  (1940, [(1, 0), (3, 2), (13, 6), (19, 6)]), (1943, [(1, 1), (3, 1)]), (1944, [(1, 0), (5, 4)]), (1947, [(1, 1), (13, 9), (17, 5), (23, 13)]), (1948, [(1, 0)]), (1951,
  [(1, 1)]), (1952, [(1, 0), (3, 2), (7, 6), (21, 8)]), (1955, [(1, 1), (3, 1), (11, 5), (33, 5)]), (1956, [(1, 0), (5, 2), (7, 2), (35, 2)]), (1959, [(1, 1), (5, 1)]),
  (1960, [(1, 0), (13, 4), (19, 4), (23, 8)]), (1963, [(1, 1), (7, 5)]), (1964, [(1, 0)]), (1967, [(1, 1), (3, 1)]), (1968, [(1, 0), (11, 10), (17, 2), (31, 4)]), (1971,
  [(1, 1), (5, 3)]), (1972, [(1, 0), (7, 4), (19, 2), (37, 10)]), (1975, [(1, 1), (13, 1)]), (1976, [(1, 0), (3, 2), (5, 2), (15, 2)]), (1979, [(1, 1)]), (1980, [(1, 0),
  (7, 6), (17, 14), (59, 12)]), (1983, [(1, 1), (23, 15)]), (1984, [(1, 0), (5, 4), (7, 2), (19, 12)]), (1987, [(1, 1)]), (1988, [(1, 0), (3, 2), (11, 6), (13, 12)]),
  (1991, [(1, 1), (7, 5)]), (1992, [(1, 0), (13, 6), (23, 20), (89, 12)]), (1995, [(1, 1), (23, 11), (29, 21), (31, 19), (37, 15), (73, 7), (101, 5), (167, 3)]), (1996,
  [(1, 0)]), (1999, [(1, 1)]), (2000, [(1, 0), (3, 2)])]
theorem tabV9_ok : (tabV9.all rowV) = true := by decide +kernel
def tabV : List (Nat × List (Nat × Nat)) := tabV0 ++ (tabV1 ++ (tabV2 ++ (tabV3 ++ (tabV4 ++ (tabV5 ++ (tabV6 ++ (tabV7 ++ (tabV8 ++ (tabV9)))))))))
theorem tabV_all : ((List.range 2001).all fun m => m.blt 3 || (m % 4).beq 1 || (m % 4).beq 2 || tabV.any fun p => p.1.beq m) = true := by decide +kernel
theorem tabV_ok {p : Nat × List (Nat × Nat)} (h : p ∈ tabV) : rowV p = true := by
  unfold tabV at h
  simp only [List.mem_append] at h
  rcases h with h | h | h | h | h | h | h | h | h | h
  · exact List.all_eq_true.1 tabV0_ok p h
  · exact List.all_eq_true.1 tabV1_ok p h
  · exact List.all_eq_true.1 tabV2_ok p h
  · exact List.all_eq_true.1 tabV3_ok p h
  · exact List.all_eq_true.1 tabV4_ok p h
  · exact List.all_eq_true.1 tabV5_ok p h
  · exact List.all_eq_true.1 tabV6_ok p h
  · exact List.all_eq_true.1 tabV7_ok p h
  · exact List.all_eq_true.1 tabV8_ok p h
  · exact List.all_eq_true.1 tabV9_ok p h
end

section

section
open Classical
theorem len_split {α : Type} (p : α → Bool) : ∀ L : List α, L.length = (L.filter p).length + (L.filter fun x => !p x).length
  | [] => rfl
  | x :: L => by
    have := len_split p L
    cases h : p x <;> simp [h] <;> omega
theorem fib_le {α β : Type} (f : α → β) (n : Nat) : ∀ (M : List β) (L : List α), (∀ x ∈ L, f x ∈ M) → (∀ b ∈ M, (L.filter fun x => decide (f x = b)).length ≤ n) → L.length ≤ M.length * n
  | [], L, h, _ => by
    cases L with
    | nil => simp
    | cons x L => exact absurd (h x (by simp)) (by simp)
  | b :: M, L, h, hn => by
    have h1 := len_split (fun x => decide (f x = b)) L
    have h2 := fib_le f n M (L.filter fun x => !decide (f x = b)) (fun x hx => by
      obtain ⟨hx1, hx2⟩ := List.mem_filter.1 hx
      rcases List.mem_cons.1 (h x hx1) with h3 | h3
      · simp [h3] at hx2
      · exact h3) (fun c hc => by
      refine Nat.le_trans ?_ (hn c (by simp [hc]))
      exact (List.Sublist.filter _ List.filter_sublist).length_le)
    have h3 := hn b (by simp)
    rw [List.length_cons, Nat.succ_mul]
    omega
theorem fib_ge {α β : Type} (f : α → β) (n : Nat) : ∀ (M : List β) (L : List α), M.Nodup → (∀ b ∈ M, n ≤ (L.filter fun x => decide (f x = b)).length) → M.length * n ≤ L.length
  | [], L, _, _ => by simp
  | b :: M, L, hM, hn => by
    obtain ⟨hb, hM⟩ := List.nodup_cons.1 hM
    have h1 := len_split (fun x => decide (f x = b)) L
    have h2 := fib_ge f n M (L.filter fun x => !decide (f x = b)) hM (fun c hc => by
      refine Nat.le_trans (hn c (by simp [hc])) (Nat.le_of_eq ?_)
      rw [List.filter_filter]
      congr 1
      refine List.filter_congr fun x _ => ?_
      by_cases h3 : f x = c
      · have : ¬ f x = b := fun e => hb (by rw [← e, h3]; exact hc)
        simp [h3, show ¬ c = b from fun e => this (h3.trans e)]
      · simp [h3])
    have h3 := hn b (by simp)
    rw [List.length_cons, Nat.succ_mul]
    omega
theorem inj_len {α β : Type} {A : List α} {B : List β} (g : α → β) (hA : A.Nodup) (hm : ∀ x ∈ A, g x ∈ B) (hi : ∀ x ∈ A, ∀ y ∈ A, g x = g y → x = y) : A.length ≤ B.length := by
  have h1 : (A.map g).Nodup := by
    have : ∀ A : List α, A.Nodup → (∀ x ∈ A, ∀ y ∈ A, g x = g y → x = y) → (A.map g).Nodup := by
      intro A
      induction A with
      | nil => intro _ _; simp
      | cons a A ih =>
        intro hA hi
        obtain ⟨h1, h2⟩ := List.nodup_cons.1 hA
        rw [List.map_cons, List.nodup_cons]
        refine ⟨fun h => ?_, ih h2 fun x hx y hy => hi x (by simp [hx]) y (by simp [hy])⟩
        obtain ⟨y, hy, he⟩ := List.mem_map.1 h
        have := hi y (by simp [hy]) a (by simp) he
        exact h1 (this ▸ hy)
    exact this A hA hi
  have h2 := h1.length_le_of_subset (l₂ := B) (fun y hy => by
    obtain ⟨x, hx, rfl⟩ := List.mem_map.1 hy
    exact hm x hx)
  simpa using h2
end
section
open Classical
variable {d : Int}
theorem cls_nd (d : Int) : (clsL d).Nodup := clsL_nodup d
theorem amb_sq (D : Dsc d) {f : Fm} (hf : f ∈ clsL d) : ambB f = true ↔ cmp d f f = oneF d := by
  constructor
  · intro h
    obtain ⟨⟨f1, _, _, f4, _⟩, _⟩ := mem_clsL D.lo hf
    have h1 := D.inv hf (CF.of_mem D hf).df
    rwa [amb_opp f4 (by omega) h] at h1
  · intro h
    have := D.amb hf (CF.of_mem D hf).df h
    unfold ambB isAmb
    rcases this with h | h | h <;> simp [h]
theorem pw2 (D : Dsc d) {f : Fm} (hf : f ∈ clsL d) : pw d f 2 = cmp d f f := by
  rw [D.pw_add hf 1 1, D.pw_one hf]
/-- The inverse of a class. -/
theorem inv_ex (D : Dsc d) {f : Fm} (hf : f ∈ clsL d) : ∃ g ∈ clsL d, cmp d f g = oneF d :=
  ⟨red (oppF f), D.opp_mem hf (CF.of_mem D hf).df, D.inv hf (CF.of_mem D hf).df⟩
theorem cmp_cl (D : Dsc d) {f g h : Fm} (hf : f ∈ clsL d) (hg : g ∈ clsL d) (hh : h ∈ clsL d) (e : cmp d f g = cmp d f h) : g = h := by
  rw [D.comm hf hg, D.comm hf hh] at e
  exact D.cancel hg hh hf e
theorem cmp4 (D : Dsc d) {f g : Fm} (hf : f ∈ clsL d) (hg : g ∈ clsL d) : cmp d (cmp d f g) (cmp d f g) = cmp d (cmp d f f) (cmp d g g) := by
  rw [D.assoc hf hg (D.cmpm hf hg), D.assoc hf hf (D.cmpm hg hg), ← D.assoc hg hf hg, D.comm hg hf, D.assoc hf hg hg]
/-- The squares, the ambiguous classes, the principal genus. -/
noncomputable def sqL (d : Int) : List Fm := (clsL d).filter (powP d 2 (clsL d))
def amL (d : Int) : List Fm := (clsL d).filter ambB
noncomputable def pgL (d : Int) : List Fm := (clsL d).filter (gnP d (gnL d (oneF d)))
theorem mem_sqL (D : Dsc d) {f : Fm} : f ∈ sqL d ↔ ∃ g ∈ clsL d, f = cmp d g g := by
  unfold sqL powP
  rw [List.mem_filter, List.any_eq_true]
  constructor
  · rintro ⟨_, g, hg, he⟩
    exact ⟨g, hg, ((fmEq_iff _ _).1 he).trans (pw2 D hg)⟩
  · rintro ⟨g, hg, rfl⟩
    exact ⟨D.cmpm hg hg, g, hg, (fmEq_iff _ _).2 (pw2 D hg).symm⟩
theorem mem_amL (D : Dsc d) {f : Fm} : f ∈ amL d ↔ f ∈ clsL d ∧ cmp d f f = oneF d := by
  unfold amL
  rw [List.mem_filter]
  constructor
  · rintro ⟨h1, h2⟩; exact ⟨h1, (amb_sq D h1).1 h2⟩
  · rintro ⟨h1, h2⟩; exact ⟨h1, (amb_sq D h1).2 h2⟩
theorem mem_pgL {f : Fm} : f ∈ pgL d ↔ f ∈ clsL d ∧ gnL d f = gnL d (oneF d) := by
  unfold pgL gnP
  rw [List.mem_filter, decide_eq_true_eq]
theorem sq_nd : (sqL d).Nodup := List.Nodup.sublist List.filter_sublist (cls_nd d)
theorem am_nd : (amL d).Nodup := List.Nodup.sublist List.filter_sublist (cls_nd d)
theorem pg_nd : (pgL d).Nodup := List.Nodup.sublist List.filter_sublist (cls_nd d)

/-- The classes with one square are as many as the ambiguous ones. -/
theorem sq_fib (D : Dsc d) {s : Fm} (hs : s ∈ sqL d) : ((clsL d).filter fun x => decide (cmp d x x = s)).length = (amL d).length := by
  obtain ⟨f, hf, rfl⟩ := (mem_sqL D).1 hs
  obtain ⟨g, hg, hfg⟩ := inv_ex D hf
  apply Nat.le_antisymm
  · refine inj_len (fun x => cmp d g x) (List.Nodup.sublist List.filter_sublist (cls_nd d)) ?_ ?_
    · intro x hx
      obtain ⟨hx1, hx2⟩ := List.mem_filter.1 hx
      rw [decide_eq_true_eq] at hx2
      refine (mem_amL D).2 ⟨D.cmpm hg hx1, ?_⟩
      rw [cmp4 D hg hx1, hx2, ← cmp4 D hg hf, D.comm hg hf, hfg, D.mul_one D.one]
    · intro x hx y hy he
      exact cmp_cl D hg (List.mem_filter.1 hx).1 (List.mem_filter.1 hy).1 he
  · refine inj_len (fun x => cmp d f x) am_nd ?_ ?_
    · intro x hx
      obtain ⟨hx1, hx2⟩ := (mem_amL D).1 hx
      refine List.mem_filter.2 ⟨D.cmpm hf hx1, ?_⟩
      rw [decide_eq_true_eq, cmp4 D hf hx1, hx2, D.mul_one (D.cmpm hf hf)]
    · intro x hx y hy he
      exact cmp_cl D hf ((mem_amL D).1 hx).1 ((mem_amL D).1 hy).1 he
theorem h_sq (D : Dsc d) : (clsL d).length = (sqL d).length * (amL d).length := by
  apply Nat.le_antisymm
  · refine fib_le (fun x => cmp d x x) _ _ _ (fun x hx => (mem_sqL D).2 ⟨x, hx, rfl⟩) fun b hb => ?_
    refine Nat.le_of_eq (Eq.trans ?_ (sq_fib D hb))
    congr 1
  · refine fib_ge (fun x => cmp d x x) _ _ _ sq_nd fun b hb => ?_
    refine Nat.le_of_eq (Eq.trans (sq_fib D hb).symm ?_)
    congr 1
theorem zip_one {X Y : List Int} (hl : X.length = Y.length) (hY : ∀ y ∈ Y, y = 1 ∨ y = -1) : List.zipWith (· * ·) (List.zipWith (· * ·) X Y) Y = X := by
  induction X generalizing Y with
  | nil => simp
  | cons x X ih =>
    cases Y with
    | nil => simp at hl
    | cons y Y =>
      simp only [List.zipWith_cons_cons]
      rw [ih (by simpa using hl) fun z hz => hY z (by simp [hz])]
      rcases hY y (by simp) with h | h <;> rw [h] <;> simp
theorem gn_len2 (D : Dsc d) {f : Fm} (hf : f ∈ clsL d) : (gnL d f).length = (chars (-d)).length := by
  obtain ⟨x, y, v, _, h⟩ := gn_ex D hf
  rw [← h]; unfold vals; simp
theorem gn_cl (D : Dsc d) {f g h : Fm} (hf : f ∈ clsL d) (hg : g ∈ clsL d) (hh : h ∈ clsL d) : gnL d (cmp d f g) = gnL d (cmp d f h) ↔ gnL d g = gnL d h := by
  have hl : ∀ {x y : Fm}, x ∈ clsL d → y ∈ clsL d → (gnL d x).length = (gnL d y).length := fun hx hy => by rw [gn_len2 D hx, gn_len2 D hy]
  rw [gn_mul D hf hg, gn_mul D hf hh]
  constructor
  · intro e
    have hc : ∀ X Y : List Int, List.zipWith (· * ·) X Y = List.zipWith (· * ·) Y X := fun X Y => List.zipWith_comm_of_comm (fun x y => Int.mul_comm x y)
    rw [hc, hc (gnL d f)] at e
    have e2 := congrArg (fun Z => List.zipWith (· * ·) Z (gnL d f)) e
    simp only at e2
    rwa [zip_one (hl hg hf) (gn_pm D hf), zip_one (hl hh hf) (gn_pm D hf)] at e2
  · intro e; rw [e]
theorem gn_sq (D : Dsc d) {f g : Fm} (hf : f ∈ clsL d) (hg : g ∈ clsL d) : gnL d (cmp d f f) = gnL d (cmp d g g) := by
  rw [gn_mul D hf hf, gn_mul D hg hg]
  have : ∀ X Y : List Int, X.length = Y.length → (∀ x ∈ X, x = 1 ∨ x = -1) → (∀ x ∈ Y, x = 1 ∨ x = -1) → List.zipWith (· * ·) X X = List.zipWith (· * ·) Y Y := by
    intro X
    induction X with
    | nil => intro Y h _ _; cases Y with
      | nil => rfl
      | cons y Y => simp at h
    | cons x X ih =>
      intro Y h hX hY
      cases Y with
      | nil => simp at h
      | cons y Y =>
        simp only [List.zipWith_cons_cons]
        rw [ih Y (by simpa using h) (fun z hz => hX z (by simp [hz])) fun z hz => hY z (by simp [hz])]
        congr 1
        rcases hX x (by simp) with h | h <;> rcases hY y (by simp) with h2 | h2 <;> rw [h, h2] <;> rfl
  exact this _ _ (by rw [gn_len2 D hf, gn_len2 D hg]) (gn_pm D hf) (gn_pm D hg)
/-- The classes of one genus are as many as those of the principal genus. -/
theorem gn_fib (D : Dsc d) {r : Fm} (hr : r ∈ clsL d) : ((clsL d).filter fun x => decide (gnL d x = gnL d r)).length = (pgL d).length := by
  obtain ⟨g, hg, hrg⟩ := inv_ex D hr
  apply Nat.le_antisymm
  · refine inj_len (fun x => cmp d g x) (List.Nodup.sublist List.filter_sublist (cls_nd d)) ?_ ?_
    · intro x hx
      obtain ⟨hx1, hx2⟩ := List.mem_filter.1 hx
      rw [decide_eq_true_eq] at hx2
      refine mem_pgL.2 ⟨D.cmpm hg hx1, ?_⟩
      rw [← hrg, D.comm hr hg]
      exact (gn_cl D hg hx1 hr).2 hx2
    · intro x hx y hy he
      exact cmp_cl D hg (List.mem_filter.1 hx).1 (List.mem_filter.1 hy).1 he
  · refine inj_len (fun x => cmp d r x) pg_nd ?_ ?_
    · intro x hx
      obtain ⟨hx1, hx2⟩ := mem_pgL.1 hx
      refine List.mem_filter.2 ⟨D.cmpm hr hx1, ?_⟩
      rw [decide_eq_true_eq]
      have := (gn_cl D hr hx1 D.one).2 hx2
      rwa [D.mul_one hr] at this
    · intro x hx y hy he
      exact cmp_cl D hr (mem_pgL.1 hx).1 (mem_pgL.1 hy).1 he
theorem sq_pg (D : Dsc d) {f : Fm} (hf : f ∈ sqL d) : f ∈ pgL d := by
  obtain ⟨g, hg, rfl⟩ := (mem_sqL D).1 hf
  refine mem_pgL.2 ⟨D.cmpm hg hg, ?_⟩
  rw [gn_sq D hg D.one, D.mul_one D.one]

/-- The ambiguous forms are among those that the table counts. -/
theorem am_N (D : Dsc d) : (amL d).length ≤ (ambN (-d).toNat).length := by
  refine inj_len (fun f => (f.a.toNat, f.b.toNat, f.c.toNat)) am_nd ?_ ?_
  · intro f hf
    obtain ⟨h1, h2⟩ := List.mem_filter.1 hf
    obtain ⟨⟨f1, f2, f3, f4, f5, f6, f7⟩, f8⟩ := mem_clsL D.lo h1
    have h3 := (isRed_iff _ _ _).1 f4
    have hlo := D.lo
    obtain ⟨a, b, c⟩ := f
    simp only at f1 f2 f3 f4 f5 f6 f7 f8 h3 ⊢
    unfold disc at f3
    simp only at f3
    obtain ⟨A, rfl⟩ : ∃ A : Nat, a = A := ⟨a.toNat, by omega⟩
    obtain ⟨C, rfl⟩ : ∃ C : Nat, c = C := ⟨c.toNat, by omega⟩
    obtain ⟨m, hm⟩ : ∃ m : Nat, d = -(m : Int) := ⟨(-d).toNat, by have := D.hi; omega⟩
    have hb0 : 0 ≤ b := by
      simp only [ambB, isAmb, Bool.or_eq_true, decide_eq_true_eq] at h2
      omega
    obtain ⟨B, rfl⟩ : ∃ B : Nat, b = B := ⟨b.toNat, by omega⟩
    have e1 : B * B + m = 4 * A * C := by
      have : ((B * B + m : Nat) : Int) = ((4 * A * C : Nat) : Int) := by
        push_cast
        omega
      exact Int.ofNat_inj.1 this
    have hBA : B ≤ A := by omega
    have hAC : A ≤ C := by omega
    have hA26 : A ≤ 26 := by
      refine Nat.le_of_lt_succ (Nat.lt_of_not_le fun h => ?_)
      have s1 : A * A ≤ A * C := Nat.mul_le_mul_left _ hAC
      have s2 : B * B ≤ A * A := Nat.mul_le_mul hBA hBA
      have s3 : 27 * 27 ≤ A * A := Nat.mul_le_mul h h
      have s4 : 4 * A * C = 4 * (A * C) := Nat.mul_assoc 4 A C
      omega
    have hg : Nat.gcd A (Nat.gcd B C) = 1 := f8
    have hdm : (-d).toNat = m := by omega
    simp only [Int.toNat_natCast, hdm]
    unfold ambN
    refine List.mem_flatMap.2 ⟨A - 1, List.mem_range.2 (by omega), ?_⟩
    rw [show A - 1 + 1 = A by omega]
    unfold ambA
    have h4A : 0 < 4 * A := by omega
    simp only [ambB, isAmb, Bool.or_eq_true, decide_eq_true_eq] at h2
    by_cases hB : B = 0
    · subst hB
      have em : m = 4 * A * C := by omega
      have hg2 : Nat.gcd A C = 1 := by simpa using hg
      refine List.mem_append.2 (.inl ?_)
      rw [em, Nat.mul_mod_right, Nat.mul_div_cancel_left _ h4A]
      simp [hAC, hg2]
    · by_cases hAB : A = B
      · subst hAB
        have hg2 : Nat.gcd A C = 1 := by rwa [← Nat.gcd_assoc, Nat.gcd_self] at hg
        refine List.mem_append.2 (.inr (List.mem_append.2 (.inl ?_)))
        rw [e1, Nat.mul_mod_right, Nat.mul_div_cancel_left _ h4A]
        simp [hAC, hg2]
      · obtain rfl : A = C := by omega
        have hg2 : Nat.gcd A B = 1 := by rwa [Nat.gcd_comm B A, ← Nat.gcd_assoc, Nat.gcd_self] at hg
        refine List.mem_append.2 (.inr (List.mem_append.2 (.inr ?_)))
        rw [if_pos (by rw [Nat.ble_eq]; omega)]
        refine List.mem_filterMap.2 ⟨B, List.mem_range.2 (by omega), ?_⟩
        have hb1 : B.blt 1 = false := by
          rw [← Bool.not_eq_true, Nat.blt_eq]; omega
        rw [hb1, e1]
        simp [hg2]
  · intro f hf g hg he
    have hp : ∀ {f : Fm}, f ∈ amL d → 0 ≤ f.a ∧ 0 ≤ f.b ∧ 0 ≤ f.c := by
      intro f hf
      obtain ⟨h1, h2⟩ := List.mem_filter.1 hf
      obtain ⟨⟨f1, f2, f3, f4, f5, f6, f7⟩, f8⟩ := mem_clsL D.lo h1
      have h3 := (isRed_iff _ _ _).1 f4
      simp only [ambB, isAmb, Bool.or_eq_true, decide_eq_true_eq] at h2
      omega
    have p1 := hp hf
    have p2 := hp hg
    simp only [Prod.mk.injEq] at he
    obtain ⟨a, b, c⟩ := f
    obtain ⟨a2, b2, c2⟩ := g
    simp only at he p1 p2
    simp only [Fm.mk.injEq]
    omega
/-- A row of the table. -/
theorem row_ex (D : Dsc d) : ∃ l, rowV ((-d).toNat, l) = true := by
  have h1 := D.lo
  have h2 := D.hi
  have h3 := D.md
  have h := List.all_eq_true.1 tabV_all (-d).toNat (List.mem_range.2 (by omega))
  simp only [Bool.or_eq_true, Nat.beq_eq, Nat.blt_eq] at h
  rcases h with ((h | h) | h) | h
  · omega
  · omega
  · omega
  · obtain ⟨⟨m, l⟩, hp, he⟩ := List.any_eq_true.1 h
    rw [Nat.beq_eq] at he
    simp only at he
    subst he
    exact ⟨l, tabV_ok hp⟩
theorem chi_ne_small {p v w : Nat} (h : jC (v % p + 1) (v % p) p = 1 ∧ jC (w % p + 1) (w % p) p = 2) : chi (1, (p : Int)) v ≠ chi (1, (p : Int)) w := by
  have h1 := (jC_S (a := v % p) (n := p)).1 h.1
  have h2 := (jC_S (a := w % p) (n := p)).2 h.2
  unfold chi
  simp only [if_true]
  rw [← Int.natCast_emod, ← Int.natCast_emod, h1, h2]
  decide
theorem smP_pr : ∀ p ∈ smP, PrI (p : Int) ∧ 2 < p := by
  intro p hp
  have h : (smP.all fun p => (List.range p).all fun r => r < 2 || !(p % r == 0)) = true := by decide +kernel
  have h2 := List.all_eq_true.1 h p hp
  have h3 : 2 < p := by
    have : (smP.all fun p => decide (2 < p)) = true := by decide
    simpa using List.all_eq_true.1 this p hp
  refine ⟨⟨by omega, fun q q1 q2 q3 => ?_⟩, h3⟩
  have h4 := List.all_eq_true.1 h2 q.toNat (List.mem_range.2 (by omega))
  simp at h4
  have h5 : q.toNat ∣ p := by
    have : (q.toNat : Int) ∣ (p : Int) := by rwa [show (q.toNat : Int) = q by omega]
    exact Int.natCast_dvd_natCast.1 this
  rcases h4 with h4 | h4
  · omega
  · exact h4 (Nat.mod_eq_zero_of_dvd h5)
theorem dist_ne (D : Dsc d) {v w : Nat} (hv : Int.gcd v (2 * d) = 1) (hw : Int.gcd w (2 * d) = 1) (h : dist (-d).toNat v w = true) : vals (-d) v ≠ vals (-d) w := by
  have h1 := D.lo
  have h2 := D.hi
  have h3 := D.md
  intro he
  have hall : ∀ c ∈ chars (-d), chi c v = chi c w := by
    unfold vals at he
    exact fun c hc => List.map_inj_left.1 he c hc
  unfold dist at h
  rw [Bool.or_eq_true] at h
  rcases h with h | h
  · obtain ⟨p, hp, h⟩ := List.any_eq_true.1 h
    simp only [Bool.and_eq_true, Bool.or_eq_true, Nat.beq_eq] at h
    obtain ⟨hd, h⟩ := h
    obtain ⟨hp1, hp2⟩ := smP_pr p hp
    have hmem : ((1 : Int), (p : Int)) ∈ chars (-d) := by
      unfold chars chP
      refine List.mem_append.2 (.inl (List.mem_map.2 ⟨(p : Int), List.mem_filter.2 ⟨?_, by simp; omega⟩, rfl⟩))
      refine (mem_prims (by omega) (by omega)).2 ⟨hp1, ?_⟩
      have : (p : Int) ∣ ((-d).toNat : Int) := Int.natCast_dvd_natCast.2 (Nat.dvd_of_mod_eq_zero hd)
      rwa [show ((-d).toNat : Int) = -d by omega] at this
    rcases h with h | h
    · exact chi_ne_small h (hall _ hmem)
    · exact chi_ne_small ⟨h.2, h.1⟩ (hall _ hmem).symm
  · simp only [Bool.and_eq_true, Nat.beq_eq] at h
    obtain ⟨h4, h⟩ := h
    obtain ⟨k, hk, h⟩ := List.any_eq_true.1 h
    simp only [Bool.and_eq_true, Bool.not_eq_true', decide_eq_false_iff_not] at h
    obtain ⟨hK, h⟩ := h
    have hk2 : k = 2 ∨ k = 3 ∨ k = 4 := by simpa using hk
    have hmem : ((k : Int), (0 : Int)) ∈ chars (-d) := by
      unfold chars
      refine List.mem_append.2 (.inr ?_)
      unfold tailC
      rw [if_neg (by omega)]
      have hn : (-d) / 4 % 8 = (((-d).toNat / 4 % 8 : Nat) : Int) := by omega
      rw [hn]
      generalize (-d).toNat / 4 % 8 = n at hK
      simp only [twK, Bool.or_eq_true, Bool.and_eq_true, beq_iff_eq] at hK
      rcases hK with ((⟨h1, rfl⟩ | ⟨rfl, rfl⟩) | ⟨rfl, rfl⟩) | ⟨rfl, h1⟩
      · rcases h1 with (rfl | rfl) | rfl <;> simp
      · simp
      · simp
      · rcases h1 with rfl | rfl <;> simp
    have ho1 := cop_odd hv
    have ho2 := cop_odd hw
    have e := hall _ hmem
    have hk3 : (k : Int) = 2 ∨ (k : Int) = 3 ∨ (k : Int) = 4 := by omega
    rw [chi_tw hk3 ho1, chi_tw hk3 ho2] at e
    apply h
    rw [show v % 8 = ((v : Int) % 8).toNat by omega, show w % 8 = ((w : Int) % 8).toNat by omega]
    simpa using e
theorem gcd_nat_2d {v : Nat} (D : Dsc d) (h : Nat.gcd v (2 * (-d).toNat) = 1) : Int.gcd (v : Int) (2 * d) = 1 := by
  have h2 := D.hi
  rw [show 2 * d = -((2 * (-d).toNat : Nat) : Int) by omega, Int.gcd_neg]
  exact h
/-- A class with given genus values. -/
theorem val_cls (D : Dsc d) {v b : Nat} (hv : 0 < v) (hg : Nat.gcd v (2 * (-d).toNat) = 1) (hb : (b * b + (-d).toNat) % (4 * v) = 0) : ∃ r ∈ clsL d, gnL d r = vals (-d) v := by
  have hgi := gcd_nat_2d D hg
  have h2 := D.hi
  obtain ⟨c, hc⟩ := Nat.dvd_of_mod_eq_zero hb
  have hci : (b : Int) * b - d = 4 * (v : Int) * c := by
    have : ((b * b + (-d).toNat : Nat) : Int) = ((4 * v * c : Nat) : Int) := by rw [hc]
    push_cast at this
    omega
  have pd : PD d ⟨(v : Int), (b : Int), (c : Int)⟩ := by
    refine ⟨by simpa using hv, by unfold disc; simp only; omega, ?_⟩
    rw [prm_iff]
    intro m m1 m2 m3
    simp only at m1 m2 m3
    have hmd : m ∣ 2 * d := by
      have : d = b * b - 4 * (v : Int) * c := by omega
      rw [this]
      refine Int.dvd_mul_of_dvd_right (Int.dvd_sub (Int.dvd_mul_of_dvd_left m2) ?_)
      exact Int.dvd_mul_of_dvd_right m3
    have := Int.dvd_coe_gcd m1 hmd
    rwa [hgi] at this
  refine ⟨_, pd.red_mem D, (vals_gn D (pd.red_mem D) ?_ hgi).symm⟩
  rw [prep_red (pd.def_ D)]
  exact ⟨1, 0, by decide, by simp⟩
theorem apart_nd (D : Dsc d) : ∀ l : List (Nat × Nat), (∀ x ∈ l, Nat.gcd x.1 (2 * (-d).toNat) = 1) → apartV (-d).toNat l = true → (l.map fun x => vals (-d) (x.1 : Int)).Nodup
  | [], _, _ => by simp
  | x :: l, hg, h => by
    unfold apartV at h
    rw [Bool.and_eq_true] at h
    obtain ⟨h1, h2⟩ := h
    rw [List.map_cons, List.nodup_cons]
    refine ⟨fun hm => ?_, apart_nd D l (fun y hy => hg y (by simp [hy])) h2⟩
    obtain ⟨y, hy, he⟩ := List.mem_map.1 hm
    exact dist_ne D (gcd_nat_2d D (hg x (by simp))) (gcd_nat_2d D (hg y (by simp [hy]))) (List.all_eq_true.1 h1 y hy) he.symm
theorem pg_le (D : Dsc d) : (amL d).length * (pgL d).length ≤ (clsL d).length := by
  obtain ⟨l, hl⟩ := row_ex D
  unfold rowV at hl
  simp only [Bool.and_eq_true, Nat.beq_eq, List.all_eq_true, Nat.blt_eq] at hl
  obtain ⟨⟨h1, h2⟩, h3⟩ := hl
  have hn := apart_nd D l (fun x hx => (h1 x hx).1.2) h2
  have := fib_ge (gnL d) (pgL d).length _ (clsL d) hn (fun b hb => by
    obtain ⟨x, hx, rfl⟩ := List.mem_map.1 hb
    obtain ⟨⟨g1, g2⟩, g3⟩ := h1 x hx
    obtain ⟨r, hr, he⟩ := val_cls D g1 g2 g3
    rw [← gn_fib D hr]
    refine Nat.le_of_eq ?_
    congr 1
    exact List.filter_congr fun y _ => decide_eq_decide.2 (by rw [he]))
  rw [List.length_map] at this
  have h4 := am_N D
  rw [h3] at h4
  exact Nat.le_trans (Nat.mul_le_mul_right _ h4) this
theorem am_pos (D : Dsc d) : 0 < (amL d).length := List.length_pos_of_mem ((mem_amL D).2 ⟨D.one, D.mul_one D.one⟩)
/-- The principal genus is made of the squares. -/
theorem pg_sq (D : Dsc d) {f : Fm} : f ∈ pgL d ↔ f ∈ sqL d := by
  refine ⟨fun h => ?_, sq_pg D⟩
  have h1 := h_sq D
  have h2 := pg_le D
  have h3 := am_pos D
  rw [h1, Nat.mul_comm] at h2
  have h4 : (pgL d).length ≤ (sqL d).length := Nat.le_of_mul_le_mul_right h2 h3
  apply Classical.byContradiction
  intro hn
  have h5 : (f :: sqL d).Nodup := List.nodup_cons.2 ⟨hn, sq_nd⟩
  have h6 := h5.length_le_of_subset (l₂ := pgL d) (fun x hx => by
    rcases List.mem_cons.1 hx with rfl | hx
    · exact h
    · exact sq_pg D hx)
  simp at h6
  omega
theorem pg_eq_sq (D : Dsc d) : pgL d = sqL d := by
  unfold pgL sqL
  refine List.filter_congr fun f hf => ?_
  rw [Bool.eq_iff_iff]
  have := pg_sq D (f := f)
  unfold pgL sqL at this
  rw [List.mem_filter, List.mem_filter] at this
  simpa [hf] using this
theorem h_pg (D : Dsc d) : (clsL d).length = (pgL d).length * (amL d).length := by rw [pg_eq_sq D]; exact h_sq D
/-- The ambiguous classes are a power of two. -/
theorem am_pow (D : Dsc d) : ∃ j, (amL d).length = 2 ^ j ∧ j < 20 := by
  obtain ⟨j, hj⟩ := cnt_pow D (p := 2) ⟨by omega, fun q hq => by
    have := Nat.le_of_dvd (by omega) hq
    have h0 : q ≠ 0 := fun e => by subst e; simp at hq
    omega⟩ 1
  have e : cntO d (2 ^ 1) = (amL d).length := by
    unfold cntO amL
    congr 1
    refine List.filter_congr fun f hf => ?_
    rw [Bool.eq_iff_iff, amb_sq D hf, beq_iff_eq, ← pw2 D hf]
    have ho := clG_ord D ⟨f, hf⟩
    constructor
    · intro h
      have := ho.of_dvd _ (Nat.dvd_of_mod_eq_zero h)
      rw [← clG_pw D ⟨f, hf⟩ 2]
      exact congrArg Subtype.val this
    · intro h
      refine Nat.mod_eq_zero_of_dvd (ho.dvd _ (Subtype.ext ?_))
      rw [clG_pw]
      exact h
  rw [e] at hj
  refine ⟨j, hj, ?_⟩
  apply Nat.lt_of_not_le
  intro h
  have h1 : 2 ^ 20 ≤ 2 ^ j := Nat.pow_le_pow_right (by omega) h
  have h2 : (amL d).length ≤ 1640 := Nat.le_trans (List.length_filter_le _ _) (clsL_len d)
  omega
/-- A genus is a coset of the squares. -/
theorem cos_gn (D : Dsc d) {f r : Fm} (hf : f ∈ clsL d) (hr : r ∈ clsL d) : hasF (cosT d r (sqL d)) f = decide (gnL d f = gnL d r) := by
  rw [Bool.eq_iff_iff, decide_eq_true_eq]
  unfold hasF cosT
  rw [List.any_eq_true]
  constructor
  · rintro ⟨g, hg, he⟩
    obtain ⟨s, hs, rfl⟩ := List.mem_map.1 hg
    rw [← (fmEq_iff _ _).1 he]
    have h1 := (pg_sq D).2 hs
    have h2 := mem_pgL.1 h1
    have := (gn_cl D hr h2.1 D.one).2 h2.2
    rwa [D.mul_one hr] at this
  · intro h
    obtain ⟨g, hg, hrg⟩ := inv_ex D hr
    refine ⟨f, List.mem_map.2 ⟨cmp d g f, (pg_sq D).1 (mem_pgL.2 ⟨D.cmpm hg hf, ?_⟩), ?_⟩, (fmEq_iff _ _).2 rfl⟩
    · rw [← hrg, D.comm hr hg]
      exact (gn_cl D hg hf hr).2 h
    · rw [← D.assoc hr hg hf, hrg, D.one_mul hf]
end
end

section

variable {d : Int}
theorem reps_map_nd (κ : Fm → List Int) (P : List Fm) : ((repsK κ P).map κ).Nodup := by
  have h := reps_dist (κ := κ) _ P rfl
  exact List.pairwise_map.2 (List.Pairwise.imp (fun h => h) h)
theorem pg_pos (D : Dsc d) : 0 < (pgL d).length := List.length_pos_of_mem (mem_pgL.2 ⟨D.one, rfl⟩)
theorem gen_count (D : Dsc d) : (genL d).length = (amL d).length := by
  classical
  unfold genL
  rw [grp_len]
  have hsub := reps_sub (κ := gnL d) _ (clsL d) rfl
  have h1 := fib_ge (gnL d) (pgL d).length ((repsK (gnL d) (clsL d)).map (gnL d)) (clsL d) (reps_map_nd _ _) (fun b hb => by
    obtain ⟨r, hr, rfl⟩ := List.mem_map.1 hb
    rw [← gn_fib D (hsub r hr)]
    refine Nat.le_of_eq ?_
    congr 1
    exact List.filter_congr fun y _ => by congr)
  have h2 := fib_le (gnL d) (pgL d).length ((repsK (gnL d) (clsL d)).map (gnL d)) (clsL d) (fun x hx => by
    have h3 := reps_has (κ := gnL d) (clsL d) x
    rw [show (clsL d).any (fun g => sameK (gnL d) g x) = true from List.any_eq_true.2 ⟨x, hx, same_iff.2 rfl⟩] at h3
    obtain ⟨g, hg, hgx⟩ := List.any_eq_true.1 h3
    exact List.mem_map.2 ⟨g, hg, (same_iff.1 hgx).symm⟩) (fun b hb => by
    obtain ⟨r, hr, rfl⟩ := List.mem_map.1 hb
    rw [← gn_fib D (hsub r hr)]
    refine Nat.le_of_eq ?_
    congr 1
    exact List.filter_congr fun y _ => by congr)
  rw [List.length_map] at h1 h2
  have h3 := Nat.le_antisymm h2 h1
  rw [h_pg D, Nat.mul_comm] at h3
  exact (Nat.eq_of_mul_eq_mul_right (pg_pos D) h3).symm
end
end Go.Proofs.Ytbecjnmifdbnjaa
