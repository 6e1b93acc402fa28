/- Plain facts: finite abelian groups: sizes of subgroups, elements that a number kills, orders, groups with one generator. -/
import Derived.Test.YtcijjnjgifoipaaT1
namespace Go.Proofs.Ytcijjnjgifoipaa
structure Ab (α : Type) where
  mul : α → α → α
  one : α
  inv : α → α
  comm : ∀ x y, mul x y = mul y x
  assoc : ∀ x y z, mul (mul x y) z = mul x (mul y z)
  one_mul : ∀ x, mul one x = x
  inv_mul : ∀ x, mul (inv x) x = one
namespace Ab
variable {α : Type} (G : Ab α)
theorem mul_one (x : α) : G.mul x G.one = x := by rw [G.comm, G.one_mul]
theorem mul_inv (x : α) : G.mul x (G.inv x) = G.one := by rw [G.comm, G.inv_mul]
theorem cancel {x y z : α} (h : G.mul x y = G.mul x z) : y = z := by
  have := congrArg (G.mul (G.inv x)) h
  rwa [← G.assoc, ← G.assoc, G.inv_mul, G.one_mul, G.one_mul] at this
theorem left_comm (x y z : α) : G.mul x (G.mul y z) = G.mul y (G.mul x z) := by rw [← G.assoc, G.comm x y, G.assoc]
def pw (x : α) : Nat → α
  | 0 => G.one
  | n + 1 => G.mul x (pw x n)
theorem pw_add (x : α) (a : Nat) : ∀ b, G.pw x (a + b) = G.mul (G.pw x a) (G.pw x b)
  | 0 => by rw [Nat.add_zero, pw, G.mul_one]
  | b + 1 => by rw [← Nat.add_assoc, pw, pw, pw_add x a b, G.left_comm]
theorem pw_mul (x : α) (a : Nat) : ∀ b, G.pw x (a * b) = G.pw (G.pw x a) b
  | 0 => by rw [Nat.mul_zero, pw, pw]
  | b + 1 => by rw [Nat.mul_succ, G.pw_add, pw_mul x a b, pw, G.comm]
theorem pw_one : ∀ n, G.pw G.one n = G.one
  | 0 => rfl
  | n + 1 => by rw [pw, pw_one n, G.one_mul]
theorem pw_prod (x y : α) : ∀ n, G.pw (G.mul x y) n = G.mul (G.pw x n) (G.pw y n)
  | 0 => by rw [pw, pw, pw, G.one_mul]
  | n + 1 => by rw [pw, pw, pw, pw_prod x y n, G.assoc, G.assoc, G.left_comm y]
theorem inv_uniq {x y : α} (h : G.mul x y = G.one) : y = G.inv x := by
  refine G.cancel (x := x) ?_
  rw [h, G.mul_inv]
theorem pw_inv (x : α) (n : Nat) : G.pw (G.inv x) n = G.inv (G.pw x n) := by
  refine G.inv_uniq ?_
  rw [← G.pw_prod, G.mul_inv, G.pw_one]
/-- A finite subgroup as a list. -/
structure Sub (S : List α) : Prop where
  nd : S.Nodup
  one : G.one ∈ S
  mul : ∀ x ∈ S, ∀ y ∈ S, G.mul x y ∈ S
  inv : ∀ x ∈ S, G.inv x ∈ S
theorem Sub.pw {S : List α} (h : G.Sub S) {x : α} (hx : x ∈ S) : ∀ n, G.pw x n ∈ S
  | 0 => h.one
  | n + 1 => h.mul _ hx _ (h.pw hx n)
theorem sub_one : G.Sub [G.one] :=
  ⟨by simp, by simp, by intro x hx y hy; simp at hx hy; subst hx; subst hy; simp [G.one_mul], by intro x hx; simp at hx; subst hx; simp; exact (G.inv_uniq (G.one_mul _)).symm⟩
/-- The least positive exponent that leads into a subgroup divides every such exponent. -/
theorem least_dvd {S : List α} (h : G.Sub S) {x : α} {t n : Nat} (ht : 0 < t) (h1 : G.pw x t ∈ S) (hmin : ∀ k, 0 < k → k < t → G.pw x k ∉ S) (hn : G.pw x n ∈ S) : t ∣ n := by
  have e : G.pw x n = G.mul (G.pw (G.pw x t) (n / t)) (G.pw x (n % t)) := by
    rw [← G.pw_mul, ← G.pw_add, Nat.div_add_mod]
  have h2 : G.pw x (n % t) ∈ S := by
    have e2 : G.pw x (n % t) = G.mul (G.inv (G.pw (G.pw x t) (n / t))) (G.pw x n) := by
      rw [e, ← G.assoc, G.inv_mul, G.one_mul]
    rw [e2]
    exact h.mul _ (h.inv _ (h.pw G h1 _)) _ hn
  by_cases h0 : n % t = 0
  · exact Nat.dvd_of_mod_eq_zero h0
  · exact absurd h2 (hmin _ (Nat.pos_of_ne_zero h0) (Nat.mod_lt _ ht))
theorem least_ex {P : Nat → Prop} {n : Nat} (hn : 0 < n) (h : P n) : ∃ t, 0 < t ∧ P t ∧ ∀ k, 0 < k → k < t → ¬ P k := by
  induction n using Nat.strongRecOn with
  | ind n ih =>
    by_cases hx : ∃ k, 0 < k ∧ k < n ∧ P k
    · obtain ⟨k, h1, h2, h3⟩ := hx
      exact ih k h2 h1 h3
    · exact ⟨n, hn, h, fun k h1 h2 h3 => hx ⟨k, h1, h2, h3⟩⟩
/-- One element more. -/
def ext (S : List α) (x : α) (t : Nat) : List α := (List.range t).flatMap fun j => S.map fun h => G.mul (G.pw x j) h
theorem mem_ext {S : List α} {x y : α} {t : Nat} : y ∈ G.ext S x t ↔ ∃ j, j < t ∧ ∃ h ∈ S, y = G.mul (G.pw x j) h := by
  unfold ext
  simp only [List.mem_flatMap, List.mem_range, List.mem_map]
  constructor
  · rintro ⟨j, hj, h, hh, e⟩; exact ⟨j, hj, h, hh, e.symm⟩
  · rintro ⟨j, hj, h, hh, e⟩; exact ⟨j, hj, h, hh, e.symm⟩
theorem ext_len (S : List α) (x : α) : ∀ t, (G.ext S x t).length = t * S.length
  | 0 => by simp [ext]
  | t + 1 => by
    have ih := ext_len S x t
    unfold ext at ih ⊢
    rw [List.range_succ, List.flatMap_append, List.length_append, ih]
    simp [Nat.succ_mul]
theorem ext_nodup {S : List α} (h : G.Sub S) {x : α} : ∀ {t : Nat}, (∀ k, 0 < k → k < t → G.pw x k ∉ S) → (G.ext S x t).Nodup
  | 0, _ => by simp [ext]
  | t + 1, hmin => by
    have ih := ext_nodup h (x := x) (t := t) (fun k h1 h2 => hmin k h1 (by omega))
    have e : G.ext S x (t + 1) = G.ext S x t ++ S.map (fun h => G.mul (G.pw x t) h) := by
      unfold ext
      rw [List.range_succ, List.flatMap_append]
      simp
    rw [e]
    refine List.nodup_append.2 ⟨ih, ?_, ?_⟩
    · refine List.Pairwise.map _ (fun a b hab he => hab (G.cancel he)) h.nd
    · intro a ha b hb he
      subst he
      obtain ⟨j, hj, s, hs, e1⟩ := G.mem_ext.1 ha
      obtain ⟨s2, hs2, e2⟩ := List.mem_map.1 hb
      have e3 : G.pw x t = G.mul (G.pw x j) (G.pw x (t - j)) := by rw [← G.pw_add]; congr 1; omega
      have e4 : G.mul (G.pw x (t - j)) s2 = s := by
        refine G.cancel (x := G.pw x j) ?_
        rw [← G.assoc, ← e3, e2, e1]
      have e5 : G.pw x (t - j) = G.mul s (G.inv s2) := by rw [← e4, G.assoc, G.mul_inv, G.mul_one]
      exact hmin (t - j) (by omega) (by omega) (by rw [e5]; exact h.mul _ hs _ (h.inv _ hs2))
theorem ext_sub {S : List α} (h : G.Sub S) {x : α} {t : Nat} (ht : 0 < t) (h1 : G.pw x t ∈ S) (hmin : ∀ k, 0 < k → k < t → G.pw x k ∉ S) : G.Sub (G.ext S x t) := by
  have key : ∀ n s, s ∈ S → G.mul (G.pw x n) s ∈ G.ext S x t := fun n s hs => by
    refine G.mem_ext.2 ⟨n % t, Nat.mod_lt _ ht, G.mul (G.pw (G.pw x t) (n / t)) s, h.mul _ (h.pw G h1 _) _ hs, ?_⟩
    rw [← G.assoc, ← G.pw_mul, ← G.pw_add, Nat.mod_add_div]
  refine ⟨G.ext_nodup h hmin, ?_, ?_, ?_⟩
  · have := key 0 G.one h.one
    rwa [pw, G.one_mul] at this
  · intro a ha b hb
    obtain ⟨i, _, s, hs, rfl⟩ := G.mem_ext.1 ha
    obtain ⟨j, _, s2, hs2, rfl⟩ := G.mem_ext.1 hb
    have := key (i + j) (G.mul s s2) (h.mul _ hs _ hs2)
    rw [G.pw_add] at this
    rwa [G.assoc, G.left_comm s, ← G.assoc]
  · intro a ha
    obtain ⟨i, hi, s, hs, rfl⟩ := G.mem_ext.1 ha
    have := key (t - i) (G.mul (G.inv (G.pw x t)) (G.inv s)) (h.mul _ (h.inv _ h1) _ (h.inv _ hs))
    have e : G.inv (G.mul (G.pw x i) s) = G.mul (G.pw x (t - i)) (G.mul (G.inv (G.pw x t)) (G.inv s)) := by
      refine (G.inv_uniq ?_).symm
      have e3 : G.pw x t = G.mul (G.pw x i) (G.pw x (t - i)) := by rw [← G.pw_add]; congr 1; omega
      rw [G.assoc, G.left_comm s, ← G.assoc, ← e3, G.left_comm s, ← G.assoc, G.mul_inv, G.mul_inv, G.one_mul]
    rw [e]; exact this
theorem ext_has {S : List α} {x : α} {t : Nat} (h : G.Sub S) (ht : 0 < t) (h1 : G.pw x t ∈ S) : x ∈ G.ext S x t ∧ ∀ s ∈ S, s ∈ G.ext S x t := by
  refine ⟨?_, fun s hs => G.mem_ext.2 ⟨0, ht, s, hs, by rw [pw, G.one_mul]⟩⟩
  by_cases h2 : t = 1
  · subst h2
    have hx : x ∈ S := by rwa [pw, pw, G.mul_one] at h1
    exact G.mem_ext.2 ⟨0, by omega, x, hx, by rw [pw, G.one_mul]⟩
  · exact G.mem_ext.2 ⟨1, by omega, G.one, h.one, by rw [pw, pw, G.mul_one, G.mul_one]⟩
theorem len_eq {A B : List α} (hA : A.Nodup) (hB : B.Nodup) (h1 : ∀ x ∈ A, x ∈ B) (h2 : ∀ x ∈ B, x ∈ A) : A.length = B.length := by
  have a := hA.length_le_of_subset (l₂ := B) h1
  have b := hB.length_le_of_subset (l₂ := A) h2
  omega
/-- A chain of subgroups: each step multiplies the size by a divisor of the element's exponent. -/
theorem chain {S T0 : List α} (hS : G.Sub S) (h0 : G.Sub T0) (h00 : ∀ x ∈ T0, x ∈ S) {f : α → Nat} : ∀ (X : List α), (∀ x ∈ X, x ∈ S ∧ 0 < f x ∧ G.pw x (f x) = G.one) →
    ∃ T t, G.Sub T ∧ (∀ x ∈ T0, x ∈ T) ∧ (∀ x ∈ X, x ∈ T) ∧ (∀ x ∈ T, x ∈ S) ∧ T.length = T0.length * t ∧ ∀ n, (∀ x ∈ X, f x ∣ n) → t ∣ n ^ X.length
  | [], _ => ⟨T0, 1, h0, fun _ h => h, by simp, h00, by simp, by simp⟩
  | x :: X, hX => by
    obtain ⟨T, u, h1, h5, h2, h3, h4, h6⟩ := chain hS h0 h00 X (fun y hy => hX y (by simp [hy]))
    obtain ⟨hxS, hn, hxn⟩ := hX x (by simp)
    have hnT : G.pw x (f x) ∈ T := by rw [hxn]; exact h1.one
    obtain ⟨t, ht, k1, k2⟩ := least_ex (P := fun k => G.pw x k ∈ T) hn hnT
    have hd := G.least_dvd h1 ht k1 k2 hnT
    refine ⟨G.ext T x t, u * t, G.ext_sub h1 ht k1 k2, fun y hy => (G.ext_has h1 ht k1).2 y (h5 y hy), ?_, ?_, ?_, ?_⟩
    · intro y hy
      rcases List.mem_cons.1 hy with rfl | hy
      · exact (G.ext_has h1 ht k1).1
      · exact (G.ext_has h1 ht k1).2 y (h2 y hy)
    · intro y hy
      obtain ⟨j, _, s, hs, rfl⟩ := G.mem_ext.1 hy
      exact hS.mul _ (hS.pw G hxS _) _ (h3 s hs)
    · rw [G.ext_len, h4, Nat.mul_comm t, Nat.mul_assoc]
    · intro n hn2
      rw [List.length_cons, Nat.pow_succ]
      exact Nat.mul_dvd_mul (h6 n (fun y hy => hn2 y (by simp [hy]))) (Nat.dvd_trans hd (hn2 x (by simp)))
/-- Every element has an exponent. -/
def Tor (S : List α) (f : α → Nat) : Prop := ∀ x ∈ S, 0 < f x ∧ G.pw x (f x) = G.one
theorem size_dvd {S : List α} (hS : G.Sub S) {n : Nat} (hn : 0 < n) (h : ∀ x ∈ S, G.pw x n = G.one) : ∃ k, S.length ∣ n ^ k := by
  obtain ⟨T, t, h1, _, h2, h3, h4, h5⟩ := G.chain hS G.sub_one (by intro x hx; simp at hx; subst hx; exact hS.one) (f := fun _ => n) S (fun x hx => ⟨hx, hn, h x hx⟩)
  refine ⟨S.length, ?_⟩
  have e := len_eq hS.nd h1.nd h2 h3
  have := h5 n (fun _ _ => Nat.dvd_refl _)
  rw [e, h4]
  rw [e, h4] at this
  simpa using this
theorem lagrange {S T0 : List α} (hS : G.Sub S) (h0 : G.Sub T0) (h00 : ∀ x ∈ T0, x ∈ S) {f : α → Nat} (ht : G.Tor S f) : T0.length ∣ S.length := by
  obtain ⟨T, t, h1, _, h2, h3, h4, _⟩ := G.chain hS h0 h00 (f := f) S (fun x hx => ⟨hx, ht x hx⟩)
  rw [len_eq hS.nd h1.nd h2 h3, h4]
  exact Nat.dvd_mul_right _ _
/-- The powers of an element as a subgroup. -/
theorem pw_sub {x : α} {N : Nat} (hN : 0 < N) (h : G.pw x N = G.one) (hm : ∀ k, 0 < k → k < N → G.pw x k ≠ G.one) : G.Sub (G.ext [G.one] x N) ∧ (G.ext [G.one] x N).length = N :=
  ⟨G.ext_sub G.sub_one hN (by simp [h]) (fun k h1 h2 => by simp [hm k h1 h2]), by rw [G.ext_len]; simp⟩
theorem ord_dvd {S : List α} (hS : G.Sub S) {f : α → Nat} (ht : G.Tor S f) {x : α} (hx : x ∈ S) {N : Nat} (hN : 0 < N) (h : G.pw x N = G.one) (hm : ∀ k, 0 < k → k < N → G.pw x k ≠ G.one) : N ∣ S.length := by
  obtain ⟨h1, h2⟩ := G.pw_sub hN h hm
  have := G.lagrange hS h1 (fun y hy => by
    obtain ⟨j, _, s, hs, rfl⟩ := G.mem_ext.1 hy
    simp at hs; subst hs
    exact hS.mul _ (hS.pw G hx _) _ hS.one) ht
  rwa [h2] at this
theorem pw_size {S : List α} (hS : G.Sub S) {f : α → Nat} (ht : G.Tor S f) {x : α} (hx : x ∈ S) : G.pw x S.length = G.one := by
  obtain ⟨N, h1, h2, h3⟩ := least_ex (P := fun k => G.pw x k = G.one) (ht x hx).1 (ht x hx).2
  obtain ⟨c, hc⟩ := G.ord_dvd hS ht hx h1 h2 h3
  rw [hc, G.pw_mul, h2, G.pw_one]
open Classical in
/-- The elements that n kills. -/
noncomputable def tors (S : List α) (n : Nat) : List α := S.filter fun x => decide (G.pw x n = G.one)
open Classical in
theorem mem_tors {S : List α} {n : Nat} {x : α} : x ∈ G.tors S n ↔ x ∈ S ∧ G.pw x n = G.one := by unfold tors; simp
theorem tors_sub {S : List α} (hS : G.Sub S) (n : Nat) : G.Sub (G.tors S n) := by
  refine ⟨List.Pairwise.filter _ hS.nd, G.mem_tors.2 ⟨hS.one, G.pw_one n⟩, fun x hx y hy => ?_, fun x hx => ?_⟩
  · obtain ⟨a, b⟩ := G.mem_tors.1 hx
    obtain ⟨c, e⟩ := G.mem_tors.1 hy
    exact G.mem_tors.2 ⟨hS.mul _ a _ c, by rw [G.pw_prod, b, e, G.one_mul]⟩
  · obtain ⟨a, b⟩ := G.mem_tors.1 hx
    exact G.mem_tors.2 ⟨hS.inv _ a, by rw [G.pw_inv, b]; exact (G.inv_uniq (G.one_mul _)).symm⟩
/-- Bezout in natural numbers. -/
theorem bezout : ∀ (a b : Nat), 0 < a → 0 < b → Nat.gcd a b = 1 → ∃ u v, b * v = 1 + a * u := by
  intro a
  induction a using Nat.strongRecOn with
  | ind a ih =>
    intro b ha hb h
    by_cases h1 : a = 1
    · subst h1
      exact ⟨b - 1, 1, by omega⟩
    · have hr : 0 < b % a := by
        rcases Nat.eq_zero_or_pos (b % a) with h0 | h0
        · have : Nat.gcd a b = a := Nat.gcd_eq_left (Nat.dvd_of_mod_eq_zero h0)
          omega
        · exact h0
      have hg : Nat.gcd (b % a) a = 1 := by rw [← Nat.gcd_rec]; exact h
      obtain ⟨u, v, e⟩ := ih (b % a) (Nat.mod_lt _ ha) a hr ha hg
      have hv : 1 ≤ v := by
        rcases Nat.eq_zero_or_pos v with h0 | h0
        · subst h0; omega
        · exact h0
      have hb2 := Nat.div_add_mod b a
      obtain ⟨c, rfl⟩ : ∃ c, a = c + 2 := ⟨a - 2, by omega⟩
      obtain ⟨w, rfl⟩ : ∃ w, v = w + 1 := ⟨v - 1, by omega⟩
      generalize b % (c + 2) = r at *
      generalize b / (c + 2) = q at *
      refine ⟨q * (u * (c + 1)) + w * (c + 1) + c, u * (c + 1), ?_⟩
      rw [← hb2]
      have e2 : r * u = (c + 2) * (w + 1) - 1 := by omega
      have e3 : r * (u * (c + 1)) = ((c + 2) * (w + 1) - 1) * (c + 1) := by rw [← e2, Nat.mul_assoc]
      have e4 : ((c + 2) * (w + 1) - 1) * (c + 1) = 1 + (c + 2) * (w * (c + 1) + c) := by
        have : (c + 2) * (w + 1) - 1 = (c + 2) * w + (c + 1) := by rw [Nat.mul_succ]; omega
        rw [this]
        grind
      rw [Nat.add_mul, e3, e4]
      grind
theorem tors_mul {S : List α} (hS : G.Sub S) {f : α → Nat} (ht : G.Tor S f) {a b : Nat} (ha : 0 < a) (hb : 0 < b) (hm : S.length = a * b) (hc : Nat.Coprime a b) : S.length = (G.tors S a).length * (G.tors S b).length := by
  obtain ⟨u, v, e⟩ := bezout a b ha hb hc
  have hone : ∀ z, G.pw z a = G.one → G.pw z b = G.one → z = G.one := by
    intro z h1 h2
    have k1 : G.pw z (b * v) = G.one := by rw [G.pw_mul, h2, G.pw_one]
    rw [e, G.pw_add, G.pw_mul, h1, G.pw_one, G.mul_one, pw, pw, G.mul_one] at k1
    exact k1
  have hA := G.tors_sub hS a
  have hB := G.tors_sub hS b
  have hl : ∀ (X : List α), (X.flatMap fun h => (G.tors S b).map (G.mul h)).length = X.length * (G.tors S b).length := by
    intro X
    induction X with
    | nil => simp
    | cons x X ih => simp [List.flatMap_cons, ih, Nat.succ_mul]; omega
  rw [← hl]
  refine len_eq hS.nd ?_ ?_ ?_
  · refine List.pairwise_flatMap.2 ⟨fun h _ => List.Pairwise.map _ (fun x y hxy he => hxy (G.cancel he)) hB.nd, ?_⟩
    refine List.Pairwise.imp_of_mem ?_ hA.nd
    intro h h' hh hh' hne x hx y hy he
    obtain ⟨k, hk, rfl⟩ := List.mem_map.1 hx
    obtain ⟨k', hk', rfl⟩ := List.mem_map.1 hy
    have hz : G.mul (G.inv h') h = G.mul k' (G.inv k) := by
      refine G.cancel (x := G.mul h' k) ?_
      have l : G.mul (G.mul h' k) (G.mul (G.inv h') h) = G.mul h k := by
        rw [G.assoc, G.left_comm k, ← G.assoc, G.mul_inv, G.one_mul, G.comm]
      have r : G.mul (G.mul h' k) (G.mul k' (G.inv k)) = G.mul h' k' := by
        rw [G.assoc, G.left_comm k, G.mul_inv, G.mul_one]
      rw [l, r, he]
    have z1 := hone (G.mul (G.inv h') h) (G.mem_tors.1 (hA.mul _ (hA.inv _ hh') _ hh)).2 (by rw [hz]; exact (G.mem_tors.1 (hB.mul _ hk' _ (hB.inv _ hk))).2)
    refine hne ?_
    have := congrArg (G.mul h') z1
    rwa [← G.assoc, G.mul_inv, G.one_mul, G.mul_one] at this
  · intro x hx
    have hx1 := G.pw_size hS ht hx
    rw [hm] at hx1
    have hk : G.pw x (b * (b * v)) = G.pw x b := by
      rw [e, Nat.mul_add, Nat.mul_one, G.pw_add, ← Nat.mul_assoc, Nat.mul_comm b a, G.pw_mul, hx1, G.pw_one, G.mul_one]
    refine List.mem_flatMap.2 ⟨G.pw x (b * v), G.mem_tors.2 ⟨hS.pw G hx _, ?_⟩, List.mem_map.2 ⟨G.mul x (G.inv (G.pw x (b * v))), G.mem_tors.2 ⟨hS.mul _ hx _ (hS.inv _ (hS.pw G hx _)), ?_⟩, ?_⟩⟩
    · rw [← G.pw_mul, Nat.mul_comm (b * v), ← Nat.mul_assoc, G.pw_mul, hx1, G.pw_one]
    · rw [G.pw_prod, G.pw_inv, ← G.pw_mul, Nat.mul_comm (b * v), hk, G.mul_inv]
    · rw [G.left_comm, G.mul_inv, G.mul_one]
  · intro x hx
    obtain ⟨h, hh, hx⟩ := List.mem_flatMap.1 hx
    obtain ⟨k, hk, rfl⟩ := List.mem_map.1 hx
    exact hS.mul _ (G.mem_tors.1 hh).1 _ (G.mem_tors.1 hk).1
/-- As many elements are killed by a as a says, where a and the rest of the size are coprime. -/
theorem tors_len {S : List α} (hS : G.Sub S) {f : α → Nat} (ht : G.Tor S f) {a b : Nat} (ha : 0 < a) (hb : 0 < b) (hm : S.length = a * b) (hc : Nat.Coprime a b) : (G.tors S a).length = a := by
  obtain ⟨k, h1⟩ := G.size_dvd (G.tors_sub hS a) ha (fun x hx => (G.mem_tors.1 hx).2)
  obtain ⟨l, h2⟩ := G.size_dvd (G.tors_sub hS b) hb (fun x hx => (G.mem_tors.1 hx).2)
  have h3 := G.tors_mul hS ht ha hb hm hc
  have c1 : Nat.Coprime (G.tors S a).length b := Nat.Coprime.coprime_dvd_left h1 (Nat.Coprime.pow_left k hc)
  have c2 : Nat.Coprime (G.tors S b).length a := Nat.Coprime.coprime_dvd_left h2 (Nat.Coprime.pow_left l hc.symm)
  have d1 : (G.tors S a).length ∣ a := c1.dvd_of_dvd_mul_right (by rw [← hm, h3]; exact Nat.dvd_mul_right _ _)
  have d2 : (G.tors S b).length ∣ b := c2.dvd_of_dvd_mul_left (by rw [← hm, h3]; exact Nat.dvd_mul_left _ _)
  have l1 := Nat.le_of_dvd ha d1
  have l2 := Nat.le_of_dvd hb d2
  rcases Nat.lt_or_ge (G.tors S a).length a with hlt | hge
  · exfalso
    have : (G.tors S a).length * (G.tors S b).length < a * b := Nat.lt_of_le_of_lt (Nat.mul_le_mul_left _ l2) (Nat.mul_lt_mul_of_pos_right hlt hb)
    omega
  · omega
/-- n is the order of x. -/
def IsO (x : α) (n : Nat) : Prop := 0 < n ∧ G.pw x n = G.one ∧ ∀ k, 0 < k → k < n → G.pw x k ≠ G.one
theorem IsO.dvd {x : α} {n k : Nat} (h : G.IsO x n) (hk : G.pw x k = G.one) : n ∣ k :=
  G.least_dvd (x := x) G.sub_one h.1 (by simp [h.2.1]) (fun k h1 h2 => by simp [h.2.2 k h1 h2]) (by simp [hk])
theorem IsO.of_dvd {x : α} {n k : Nat} (h : G.IsO x n) (hk : n ∣ k) : G.pw x k = G.one := by
  obtain ⟨c, rfl⟩ := hk
  rw [G.pw_mul, h.2.1, G.pw_one]
theorem IsO.mk' {x : α} {n : Nat} (hn : 0 < n) (h : G.pw x n = G.one) (hd : ∀ k, 0 < k → G.pw x k = G.one → n ∣ k) : G.IsO x n :=
  ⟨hn, h, fun k h1 h2 h3 => by have := Nat.le_of_dvd h1 (hd k h1 h3); omega⟩
/-- Orders that are coprime multiply. -/
theorem IsO.mul {x y : α} {a b : Nat} (hx : G.IsO x a) (hy : G.IsO y b) (hc : Nat.Coprime a b) : G.IsO (G.mul x y) (a * b) := by
  refine IsO.mk' G (Nat.mul_pos hx.1 hy.1) ?_ ?_
  · rw [G.pw_prod, G.pw_mul x, hx.2.1, G.pw_one, G.one_mul, Nat.mul_comm, G.pw_mul, hy.2.1, G.pw_one]
  · intro k _ hk
    have h1 : a ∣ k * b := by
      refine hx.dvd G ?_
      have := congrArg (fun z => G.pw z b) hk
      simp only [← G.pw_mul, G.pw_one] at this
      rw [G.pw_prod, Nat.mul_comm k b, G.pw_mul y, hy.2.1, G.pw_one, G.mul_one] at this
      rwa [Nat.mul_comm k b]
    have h2 : b ∣ k * a := by
      refine hy.dvd G ?_
      have := congrArg (fun z => G.pw z a) hk
      simp only [← G.pw_mul, G.pw_one] at this
      rw [G.pw_prod, Nat.mul_comm k a, G.pw_mul x, hx.2.1, G.pw_one, G.one_mul] at this
      rwa [Nat.mul_comm k a]
    exact Nat.Coprime.mul_dvd_of_dvd_of_dvd hc (hc.dvd_of_dvd_mul_right h1) (hc.symm.dvd_of_dvd_mul_right h2)
theorem ord_ex {S : List α} {f : α → Nat} (ht : G.Tor S f) {x : α} (hx : x ∈ S) : ∃ n, G.IsO x n := by
  obtain ⟨N, h1, h2, h3⟩ := least_ex (P := fun k => G.pw x k = G.one) (ht x hx).1 (ht x hx).2
  exact ⟨N, h1, h2, h3⟩
theorem tors_mono {S : List α} {a b : Nat} (h : a ∣ b) : ∀ x ∈ G.tors S a, x ∈ G.tors S b := by
  intro x hx
  obtain ⟨h1, h2⟩ := G.mem_tors.1 hx
  obtain ⟨c, rfl⟩ := h
  exact G.mem_tors.2 ⟨h1, by rw [G.pw_mul, h2, G.pw_one]⟩
theorem tors_dvd {S : List α} (hS : G.Sub S) {f : α → Nat} (ht : G.Tor S f) {a b : Nat} (h : a ∣ b) : (G.tors S a).length ∣ (G.tors S b).length :=
  G.lagrange (G.tors_sub hS b) (G.tors_sub hS a) (G.tors_mono h) (f := f) (fun x hx => ht x (G.mem_tors.1 hx).1)
/-- A divisor of a power of a prime is a power. -/
theorem dvd_pow {p : Nat} (hp : 2 ≤ p) (hpr : ∀ q, q ∣ p → q = 1 ∨ q = p) : ∀ (k n : Nat), n ∣ p ^ k → ∃ j, j ≤ k ∧ n = p ^ j
  | 0, n, h => ⟨0, Nat.le_refl _, by simpa using h⟩
  | k + 1, n, h => by
    rcases hpr (Nat.gcd n p) (Nat.gcd_dvd_right _ _) with h1 | h1
    · have hc : Nat.Coprime n p := h1
      have : n ∣ p ^ k := by
        rw [Nat.pow_succ] at h
        exact hc.dvd_of_dvd_mul_right h
      obtain ⟨j, hj, e⟩ := dvd_pow hp hpr k n this
      exact ⟨j, by omega, e⟩
    · have hpn : p ∣ n := by rw [← h1]; exact Nat.gcd_dvd_left _ _
      obtain ⟨c, rfl⟩ := hpn
      rw [Nat.pow_succ, Nat.mul_comm (p ^ k)] at h
      have := Nat.dvd_of_mul_dvd_mul_left (by omega) h
      obtain ⟨j, hj, rfl⟩ := dvd_pow hp hpr k c this
      exact ⟨j + 1, by omega, by rw [Nat.pow_succ, Nat.mul_comm]⟩
/-- Where fewer elements are killed by p^e than by p^(e+1), there is one of order p^(e+1). -/
theorem ord_pow {S : List α} (hS : G.Sub S) {f : α → Nat} (ht : G.Tor S f) {p e : Nat} (hp : 2 ≤ p) (hpr : ∀ q, q ∣ p → q = 1 ∨ q = p) (h : (G.tors S (p ^ e)).length < (G.tors S (p ^ (e + 1))).length) : ∃ x ∈ S, G.IsO x (p ^ (e + 1)) := by
  have hne : ∃ x, x ∈ G.tors S (p ^ (e + 1)) ∧ x ∉ G.tors S (p ^ e) := by
    refine Classical.byContradiction fun hno => ?_
    have hsub : ∀ x ∈ G.tors S (p ^ (e + 1)), x ∈ G.tors S (p ^ e) := fun x hx => Classical.byContradiction fun hx2 => hno ⟨x, hx, hx2⟩
    have := (G.tors_sub hS (p ^ (e + 1))).nd.length_le_of_subset hsub
    omega
  obtain ⟨x, h1, h2⟩ := hne
  obtain ⟨hxS, hx1⟩ := G.mem_tors.1 h1
  obtain ⟨n, hn⟩ := G.ord_ex ht hxS
  obtain ⟨j, hj, rfl⟩ := dvd_pow hp hpr _ n (hn.dvd G hx1)
  by_cases hje : j = e + 1
  · subst hje; exact ⟨x, hxS, hn⟩
  · exfalso
    refine h2 (G.mem_tors.2 ⟨hxS, hn.of_dvd G ?_⟩)
    exact Nat.pow_dvd_pow p (by omega)
def PrN (p : Nat) : Prop := 2 ≤ p ∧ ∀ q, q ∣ p → q = 1 ∨ q = p
theorem prime_ex : ∀ (n : Nat), 2 ≤ n → ∃ p, PrN p ∧ p ∣ n := by
  intro n
  induction n using Nat.strongRecOn with
  | ind n ih =>
    intro hn
    by_cases h : ∃ q, q ∣ n ∧ q ≠ 1 ∧ q ≠ n
    · obtain ⟨q, h1, h2, h3⟩ := h
      have hq := Nat.le_of_dvd (by omega) h1
      have hq0 : q ≠ 0 := by
        intro h0
        subst h0
        have := Nat.eq_zero_of_zero_dvd h1
        omega
      obtain ⟨p, hp, hd⟩ := ih q (by omega) (by omega)
      exact ⟨p, hp, Nat.dvd_trans hd h1⟩
    · refine ⟨n, ⟨hn, fun q hq => ?_⟩, Nat.dvd_refl _⟩
      refine Classical.byContradiction fun hno => h ⟨q, hq, fun e => hno (.inl e), fun e => hno (.inr e)⟩
theorem part_ex {p : Nat} (hp : PrN p) : ∀ (n : Nat), 0 < n → ∃ e r, n = p ^ e * r ∧ Nat.Coprime p r := by
  intro n
  induction n using Nat.strongRecOn with
  | ind n ih =>
    intro hn
    rcases hp.2 (Nat.gcd p n) (Nat.gcd_dvd_left _ _) with h | h
    · exact ⟨0, n, by simp, h⟩
    · have hd : p ∣ n := by rw [← h]; exact Nat.gcd_dvd_right _ _
      obtain ⟨c, rfl⟩ := hd
      have hc : 0 < c := Nat.pos_of_mul_pos_left hn
      have h2 := hp.1
      have hlt : c < p * c := by
        have := Nat.mul_le_mul_right c h2
        omega
      obtain ⟨e, r, h3, h4⟩ := ih c hlt hc
      exact ⟨e + 1, r, by rw [Nat.pow_succ, Nat.mul_comm (p ^ e), Nat.mul_assoc, ← h3], h4⟩
/-- Elements for all the prime parts make one whose order is the size. -/
theorem ord_all {S : List α} (hS : G.Sub S) (m : Nat) (h : ∀ p e r, PrN p → m = p ^ (e + 1) * r → Nat.Coprime p r → ∃ x ∈ S, G.IsO x (p ^ (e + 1))) : ∀ (n c : Nat), 0 < n → m = n * c → Nat.Coprime n c → ∃ x ∈ S, G.IsO x n := by
  intro n
  induction n using Nat.strongRecOn with
  | ind n ih =>
    intro c hn hm hc
    by_cases h1 : n = 1
    · subst h1
      exact ⟨G.one, hS.one, by omega, G.pw_one 1, fun k h1 h2 => by omega⟩
    · obtain ⟨p, hp, hd⟩ := prime_ex n (by omega)
      obtain ⟨e, r, h2, h3⟩ := part_ex hp n hn
      have he : e ≠ 0 := by
        intro h0
        subst h0
        rw [Nat.pow_zero, Nat.one_mul] at h2
        subst h2
        have : p ∣ 1 := by rw [← h3]; exact Nat.dvd_gcd (Nat.dvd_refl _) hd
        have := Nat.le_of_dvd (by omega) this
        have := hp.1
        omega
      obtain ⟨e, rfl⟩ : ∃ e', e = e' + 1 := ⟨e - 1, by omega⟩
      have hpc : Nat.Coprime p c := Nat.Coprime.coprime_dvd_left hd hc
      have hrn : r ∣ n := by rw [h2]; exact Nat.dvd_mul_left _ _
      have hrc : Nat.Coprime r c := Nat.Coprime.coprime_dvd_left hrn hc
      obtain ⟨x, hx, hxo⟩ := h p e (r * c) hp (by rw [hm, h2, Nat.mul_assoc]) (Nat.Coprime.mul_right h3 hpc)
      have hpp : 2 ≤ p ^ (e + 1) := by
        rw [Nat.pow_succ]
        have h5 := Nat.pow_pos (n := e) (show 0 < p by have := hp.1; omega)
        have := Nat.mul_le_mul h5 hp.1
        omega
      have hr0 : 0 < r := Nat.pos_of_ne_zero (fun h0 => by subst h0; simp at h2; omega)
      have hlt : r < n := by
        rw [h2]
        have := Nat.mul_le_mul_right r hpp
        omega
      have hcp : Nat.Coprime (p ^ (e + 1)) r := Nat.Coprime.pow_left _ h3
      obtain ⟨y, hy, hyo⟩ := ih r hlt (p ^ (e + 1) * c) hr0 (by rw [hm, h2, Nat.mul_comm (p ^ (e + 1)) r, Nat.mul_assoc]) (Nat.Coprime.mul_right hcp.symm hrc)
      refine ⟨G.mul x y, hS.mul _ hx _ hy, ?_⟩
      have := hxo.mul G hyo hcp
      rwa [← h2] at this
/-- In a group with one generator, q elements are killed by a divisor q of the size. -/
theorem cyc_tors {S : List α} (hS : G.Sub S) {x : α} (hx : x ∈ S) (ho : G.IsO x S.length) {q c : Nat} (hq : 0 < q) (hm : S.length = q * c) : (G.tors S q).length = q := by
  have hc : 0 < c := Nat.pos_of_ne_zero (fun h0 => by subst h0; have := ho.1; rw [hm] at this; simp at this)
  have hyo : G.IsO (G.pw x c) q := by
    refine IsO.mk' G hq (by rw [← G.pw_mul, Nat.mul_comm, ← hm, ho.2.1]) fun k _ hk => ?_
    rw [← G.pw_mul] at hk
    have := ho.dvd G hk
    rw [hm, Nat.mul_comm q] at this
    exact Nat.dvd_of_mul_dvd_mul_left hc this
  obtain ⟨p1, p2⟩ := G.pw_sub hyo.1 hyo.2.1 hyo.2.2
  obtain ⟨g1, g2⟩ := G.pw_sub ho.1 ho.2.1 ho.2.2
  have hall : ∀ y ∈ S, y ∈ G.ext [G.one] x S.length := by
    intro y hy
    refine Classical.byContradiction fun hno => ?_
    have hnd : (y :: G.ext [G.one] x S.length).Nodup := List.nodup_cons.2 ⟨hno, g1.nd⟩
    have := hnd.length_le_of_subset (l₂ := S) (fun z hz => by
      rcases List.mem_cons.1 hz with rfl | hz
      · exact hy
      · obtain ⟨j, _, s, hs, rfl⟩ := G.mem_ext.1 hz
        simp at hs; subst hs
        exact hS.mul _ (hS.pw G hx _) _ hS.one)
    rw [List.length_cons, g2] at this
    omega
  have e := len_eq (G.tors_sub hS q).nd p1.nd (fun y hy => by
    obtain ⟨h1, h2⟩ := G.mem_tors.1 hy
    obtain ⟨j, _, s, hs, rfl⟩ := G.mem_ext.1 (hall y h1)
    simp at hs; subst hs
    rw [G.mul_one, ← G.pw_mul] at h2
    have hd := ho.dvd G h2
    rw [hm, Nat.mul_comm j] at hd
    obtain ⟨i, rfl⟩ := Nat.dvd_of_mul_dvd_mul_left hq hd
    refine G.mem_ext.2 ⟨i % q, Nat.mod_lt _ hq, G.one, by simp, ?_⟩
    rw [G.mul_one, G.mul_one, G.pw_mul]
    conv => lhs; rw [← Nat.div_add_mod i q, G.pw_add, G.pw_mul, hyo.2.1, G.pw_one, G.one_mul]) (fun y hy => by
    obtain ⟨j, _, s, hs, rfl⟩ := G.mem_ext.1 hy
    simp at hs; subst hs
    refine G.mem_tors.2 ⟨hS.mul _ (hS.pw G (hS.pw G hx _) _) _ hS.one, ?_⟩
    rw [G.mul_one, ← G.pw_mul, Nat.mul_comm j, G.pw_mul, hyo.2.1, G.pw_one])
  rw [e, p2]
end Ab
end Go.Proofs.Ytcijjnjgifoipaa
