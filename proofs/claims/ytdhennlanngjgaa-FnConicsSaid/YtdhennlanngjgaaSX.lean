/- Parts SA SB SC SD laid together by tp.py. -/
import Derived.Test.YtdhennlanngjgaaKT
import Derived.Test.YtdhennlanngjgaaUB
import Derived.Test.YtdhennlanngjgaaR1
import Derived.Test.YtdhennlanngjgaaN7
namespace Go.Proofs.Ytdhennlanngjgaa
section
structure Ab (α : Type) where
  mul : α → α → α
  one : α
  inv : α → α
  comm : ∀ x y, mul x y = mul y x
  assoc : ∀ x y z, mul (mul x y) z = mul x (mul y z)
  one_mul : ∀ x, mul one x = x
  inv_mul : ∀ x, mul (inv x) x = one
namespace Ab
variable {α : Type} (G : Ab α)
theorem mul_one (x : α) : G.mul x G.one = x := by rw [G.comm, G.one_mul]
theorem mul_inv (x : α) : G.mul x (G.inv x) = G.one := by rw [G.comm, G.inv_mul]
theorem cancel {x y z : α} (h : G.mul x y = G.mul x z) : y = z := by
  have := congrArg (G.mul (G.inv x)) h
  rwa [← G.assoc, ← G.assoc, G.inv_mul, G.one_mul, G.one_mul] at this
theorem left_comm (x y z : α) : G.mul x (G.mul y z) = G.mul y (G.mul x z) := by rw [← G.assoc, G.comm x y, G.assoc]
def pw (x : α) : Nat → α
  | 0 => G.one
  | n + 1 => G.mul x (pw x n)
theorem pw_add (x : α) (a : Nat) : ∀ b, G.pw x (a + b) = G.mul (G.pw x a) (G.pw x b)
  | 0 => by rw [Nat.add_zero, pw, G.mul_one]
  | b + 1 => by rw [← Nat.add_assoc, pw, pw, pw_add x a b, G.left_comm]
theorem pw_mul (x : α) (a : Nat) : ∀ b, G.pw x (a * b) = G.pw (G.pw x a) b
  | 0 => by rw [Nat.mul_zero, pw, pw]
  | b + 1 => by rw [Nat.mul_succ, G.pw_add, pw_mul x a b, pw, G.comm]
theorem pw_one : ∀ n, G.pw G.one n = G.one
  | 0 => rfl
  | n + 1 => by rw [pw, pw_one n, G.one_mul]
theorem pw_prod (x y : α) : ∀ n, G.pw (G.mul x y) n = G.mul (G.pw x n) (G.pw y n)
  | 0 => by rw [pw, pw, pw, G.one_mul]
  | n + 1 => by rw [pw, pw, pw, pw_prod x y n, G.assoc, G.assoc, G.left_comm y]
theorem inv_uniq {x y : α} (h : G.mul x y = G.one) : y = G.inv x := by
  refine G.cancel (x := x) ?_
  rw [h, G.mul_inv]
theorem pw_inv (x : α) (n : Nat) : G.pw (G.inv x) n = G.inv (G.pw x n) := by
  refine G.inv_uniq ?_
  rw [← G.pw_prod, G.mul_inv, G.pw_one]
/-- A finite subgroup as a list. -/
structure Sub (S : List α) : Prop where
  nd : S.Nodup
  one : G.one ∈ S
  mul : ∀ x ∈ S, ∀ y ∈ S, G.mul x y ∈ S
  inv : ∀ x ∈ S, G.inv x ∈ S
theorem Sub.pw {S : List α} (h : G.Sub S) {x : α} (hx : x ∈ S) : ∀ n, G.pw x n ∈ S
  | 0 => h.one
  | n + 1 => h.mul _ hx _ (h.pw hx n)
theorem sub_one : G.Sub [G.one] :=
  ⟨by simp, by simp, by intro x hx y hy; simp at hx hy; subst hx; subst hy; simp [G.one_mul], by intro x hx; simp at hx; subst hx; simp; exact (G.inv_uniq (G.one_mul _)).symm⟩
/-- The least positive exponent that leads into a subgroup divides every such exponent. -/
theorem least_dvd {S : List α} (h : G.Sub S) {x : α} {t n : Nat} (ht : 0 < t) (h1 : G.pw x t ∈ S) (hmin : ∀ k, 0 < k → k < t → G.pw x k ∉ S) (hn : G.pw x n ∈ S) : t ∣ n := by
  have e : G.pw x n = G.mul (G.pw (G.pw x t) (n / t)) (G.pw x (n % t)) := by
    rw [← G.pw_mul, ← G.pw_add, Nat.div_add_mod]
  have h2 : G.pw x (n % t) ∈ S := by
    have e2 : G.pw x (n % t) = G.mul (G.inv (G.pw (G.pw x t) (n / t))) (G.pw x n) := by
      rw [e, ← G.assoc, G.inv_mul, G.one_mul]
    rw [e2]
    exact h.mul _ (h.inv _ (h.pw G h1 _)) _ hn
  by_cases h0 : n % t = 0
  · exact Nat.dvd_of_mod_eq_zero h0
  · exact absurd h2 (hmin _ (Nat.pos_of_ne_zero h0) (Nat.mod_lt _ ht))
theorem least_ex {P : Nat → Prop} {n : Nat} (hn : 0 < n) (h : P n) : ∃ t, 0 < t ∧ P t ∧ ∀ k, 0 < k → k < t → ¬ P k := by
  induction n using Nat.strongRecOn with
  | ind n ih =>
    by_cases hx : ∃ k, 0 < k ∧ k < n ∧ P k
    · obtain ⟨k, h1, h2, h3⟩ := hx
      exact ih k h2 h1 h3
    · exact ⟨n, hn, h, fun k h1 h2 h3 => hx ⟨k, h1, h2, h3⟩⟩
/-- One element more. -/
def ext (S : List α) (x : α) (t : Nat) : List α := (List.range t).flatMap fun j => S.map fun h => G.mul (G.pw x j) h
theorem mem_ext {S : List α} {x y : α} {t : Nat} : y ∈ G.ext S x t ↔ ∃ j, j < t ∧ ∃ h ∈ S, y = G.mul (G.pw x j) h := by
  unfold ext
  simp only [List.mem_flatMap, List.mem_range, List.mem_map]
  constructor
  · rintro ⟨j, hj, h, hh, e⟩; exact ⟨j, hj, h, hh, e.symm⟩
  · rintro ⟨j, hj, h, hh, e⟩; exact ⟨j, hj, h, hh, e.symm⟩
theorem ext_len (S : List α) (x : α) : ∀ t, (G.ext S x t).length = t * S.length
  | 0 => by simp [ext]
  | t + 1 => by
    have ih := ext_len S x t
    unfold ext at ih ⊢
    rw [List.range_succ, List.flatMap_append, List.length_append, ih]
    simp [Nat.succ_mul]
theorem ext_nodup {S : List α} (h : G.Sub S) {x : α} : ∀ {t : Nat}, (∀ k, 0 < k → k < t → G.pw x k ∉ S) → (G.ext S x t).Nodup
  | 0, _ => by simp [ext]
  | t + 1, hmin => by
    have ih := ext_nodup h (x := x) (t := t) (fun k h1 h2 => hmin k h1 (by omega))
    have e : G.ext S x (t + 1) = G.ext S x t ++ S.map (fun h => G.mul (G.pw x t) h) := by
      unfold ext
      rw [List.range_succ, List.flatMap_append]
      simp
    rw [e]
    refine List.nodup_append.2 ⟨ih, ?_, ?_⟩
    · refine List.Pairwise.map _ (fun a b hab he => hab (G.cancel he)) h.nd
    · intro a ha b hb he
      subst he
      obtain ⟨j, hj, s, hs, e1⟩ := G.mem_ext.1 ha
      obtain ⟨s2, hs2, e2⟩ := List.mem_map.1 hb
      have e3 : G.pw x t = G.mul (G.pw x j) (G.pw x (t - j)) := by rw [← G.pw_add]; congr 1; omega
      have e4 : G.mul (G.pw x (t - j)) s2 = s := by
        refine G.cancel (x := G.pw x j) ?_
        rw [← G.assoc, ← e3, e2, e1]
      have e5 : G.pw x (t - j) = G.mul s (G.inv s2) := by rw [← e4, G.assoc, G.mul_inv, G.mul_one]
      exact hmin (t - j) (by omega) (by omega) (by rw [e5]; exact h.mul _ hs _ (h.inv _ hs2))
theorem ext_sub {S : List α} (h : G.Sub S) {x : α} {t : Nat} (ht : 0 < t) (h1 : G.pw x t ∈ S) (hmin : ∀ k, 0 < k → k < t → G.pw x k ∉ S) : G.Sub (G.ext S x t) := by
  have key : ∀ n s, s ∈ S → G.mul (G.pw x n) s ∈ G.ext S x t := fun n s hs => by
    refine G.mem_ext.2 ⟨n % t, Nat.mod_lt _ ht, G.mul (G.pw (G.pw x t) (n / t)) s, h.mul _ (h.pw G h1 _) _ hs, ?_⟩
    rw [← G.assoc, ← G.pw_mul, ← G.pw_add, Nat.mod_add_div]
  refine ⟨G.ext_nodup h hmin, ?_, ?_, ?_⟩
  · have := key 0 G.one h.one
    rwa [pw, G.one_mul] at this
  · intro a ha b hb
    obtain ⟨i, _, s, hs, rfl⟩ := G.mem_ext.1 ha
    obtain ⟨j, _, s2, hs2, rfl⟩ := G.mem_ext.1 hb
    have := key (i + j) (G.mul s s2) (h.mul _ hs _ hs2)
    rw [G.pw_add] at this
    rwa [G.assoc, G.left_comm s, ← G.assoc]
  · intro a ha
    obtain ⟨i, hi, s, hs, rfl⟩ := G.mem_ext.1 ha
    have := key (t - i) (G.mul (G.inv (G.pw x t)) (G.inv s)) (h.mul _ (h.inv _ h1) _ (h.inv _ hs))
    have e : G.inv (G.mul (G.pw x i) s) = G.mul (G.pw x (t - i)) (G.mul (G.inv (G.pw x t)) (G.inv s)) := by
      refine (G.inv_uniq ?_).symm
      have e3 : G.pw x t = G.mul (G.pw x i) (G.pw x (t - i)) := by rw [← G.pw_add]; congr 1; omega
      rw [G.assoc, G.left_comm s, ← G.assoc, ← e3, G.left_comm s, ← G.assoc, G.mul_inv, G.mul_inv, G.one_mul]
    rw [e]; exact this
theorem ext_has {S : List α} {x : α} {t : Nat} (h : G.Sub S) (ht : 0 < t) (h1 : G.pw x t ∈ S) : x ∈ G.ext S x t ∧ ∀ s ∈ S, s ∈ G.ext S x t := by
  refine ⟨?_, fun s hs => G.mem_ext.2 ⟨0, ht, s, hs, by rw [pw, G.one_mul]⟩⟩
  by_cases h2 : t = 1
  · subst h2
    have hx : x ∈ S := by rwa [pw, pw, G.mul_one] at h1
    exact G.mem_ext.2 ⟨0, by omega, x, hx, by rw [pw, G.one_mul]⟩
  · exact G.mem_ext.2 ⟨1, by omega, G.one, h.one, by rw [pw, pw, G.mul_one, G.mul_one]⟩
theorem len_eq {A B : List α} (hA : A.Nodup) (hB : B.Nodup) (h1 : ∀ x ∈ A, x ∈ B) (h2 : ∀ x ∈ B, x ∈ A) : A.length = B.length := by
  have a := hA.length_le_of_subset (l₂ := B) h1
  have b := hB.length_le_of_subset (l₂ := A) h2
  omega
/-- A chain of subgroups: each step multiplies the size by a divisor of the element's exponent. -/
theorem chain {S T0 : List α} (hS : G.Sub S) (h0 : G.Sub T0) (h00 : ∀ x ∈ T0, x ∈ S) {f : α → Nat} : ∀ (X : List α), (∀ x ∈ X, x ∈ S ∧ 0 < f x ∧ G.pw x (f x) = G.one) →
    ∃ T t, G.Sub T ∧ (∀ x ∈ T0, x ∈ T) ∧ (∀ x ∈ X, x ∈ T) ∧ (∀ x ∈ T, x ∈ S) ∧ T.length = T0.length * t ∧ ∀ n, (∀ x ∈ X, f x ∣ n) → t ∣ n ^ X.length
  | [], _ => ⟨T0, 1, h0, fun _ h => h, by simp, h00, by simp, by simp⟩
  | x :: X, hX => by
    obtain ⟨T, u, h1, h5, h2, h3, h4, h6⟩ := chain hS h0 h00 X (fun y hy => hX y (by simp [hy]))
    obtain ⟨hxS, hn, hxn⟩ := hX x (by simp)
    have hnT : G.pw x (f x) ∈ T := by rw [hxn]; exact h1.one
    obtain ⟨t, ht, k1, k2⟩ := least_ex (P := fun k => G.pw x k ∈ T) hn hnT
    have hd := G.least_dvd h1 ht k1 k2 hnT
    refine ⟨G.ext T x t, u * t, G.ext_sub h1 ht k1 k2, fun y hy => (G.ext_has h1 ht k1).2 y (h5 y hy), ?_, ?_, ?_, ?_⟩
    · intro y hy
      rcases List.mem_cons.1 hy with rfl | hy
      · exact (G.ext_has h1 ht k1).1
      · exact (G.ext_has h1 ht k1).2 y (h2 y hy)
    · intro y hy
      obtain ⟨j, _, s, hs, rfl⟩ := G.mem_ext.1 hy
      exact hS.mul _ (hS.pw G hxS _) _ (h3 s hs)
    · rw [G.ext_len, h4, Nat.mul_comm t, Nat.mul_assoc]
    · intro n hn2
      rw [List.length_cons, Nat.pow_succ]
      exact Nat.mul_dvd_mul (h6 n (fun y hy => hn2 y (by simp [hy]))) (Nat.dvd_trans hd (hn2 x (by simp)))
/-- Every element has an exponent. -/
def Tor (S : List α) (f : α → Nat) : Prop := ∀ x ∈ S, 0 < f x ∧ G.pw x (f x) = G.one
theorem size_dvd {S : List α} (hS : G.Sub S) {n : Nat} (hn : 0 < n) (h : ∀ x ∈ S, G.pw x n = G.one) : ∃ k, S.length ∣ n ^ k := by
  obtain ⟨T, t, h1, _, h2, h3, h4, h5⟩ := G.chain hS G.sub_one (by intro x hx; simp at hx; subst hx; exact hS.one) (f := fun _ => n) S (fun x hx => ⟨hx, hn, h x hx⟩)
  refine ⟨S.length, ?_⟩
  have e := len_eq hS.nd h1.nd h2 h3
  have := h5 n (fun _ _ => Nat.dvd_refl _)
  rw [e, h4]
  rw [e, h4] at this
  simpa using this
theorem lagrange {S T0 : List α} (hS : G.Sub S) (h0 : G.Sub T0) (h00 : ∀ x ∈ T0, x ∈ S) {f : α → Nat} (ht : G.Tor S f) : T0.length ∣ S.length := by
  obtain ⟨T, t, h1, _, h2, h3, h4, _⟩ := G.chain hS h0 h00 (f := f) S (fun x hx => ⟨hx, ht x hx⟩)
  rw [len_eq hS.nd h1.nd h2 h3, h4]
  exact Nat.dvd_mul_right _ _
/-- The powers of an element as a subgroup. -/
theorem pw_sub {x : α} {N : Nat} (hN : 0 < N) (h : G.pw x N = G.one) (hm : ∀ k, 0 < k → k < N → G.pw x k ≠ G.one) : G.Sub (G.ext [G.one] x N) ∧ (G.ext [G.one] x N).length = N :=
  ⟨G.ext_sub G.sub_one hN (by simp [h]) (fun k h1 h2 => by simp [hm k h1 h2]), by rw [G.ext_len]; simp⟩
theorem ord_dvd {S : List α} (hS : G.Sub S) {f : α → Nat} (ht : G.Tor S f) {x : α} (hx : x ∈ S) {N : Nat} (hN : 0 < N) (h : G.pw x N = G.one) (hm : ∀ k, 0 < k → k < N → G.pw x k ≠ G.one) : N ∣ S.length := by
  obtain ⟨h1, h2⟩ := G.pw_sub hN h hm
  have := G.lagrange hS h1 (fun y hy => by
    obtain ⟨j, _, s, hs, rfl⟩ := G.mem_ext.1 hy
    simp at hs; subst hs
    exact hS.mul _ (hS.pw G hx _) _ hS.one) ht
  rwa [h2] at this
theorem pw_size {S : List α} (hS : G.Sub S) {f : α → Nat} (ht : G.Tor S f) {x : α} (hx : x ∈ S) : G.pw x S.length = G.one := by
  obtain ⟨N, h1, h2, h3⟩ := least_ex (P := fun k => G.pw x k = G.one) (ht x hx).1 (ht x hx).2
  obtain ⟨c, hc⟩ := G.ord_dvd hS ht hx h1 h2 h3
  rw [hc, G.pw_mul, h2, G.pw_one]
open Classical in
/-- The elements that n kills. -/
noncomputable def tors (S : List α) (n : Nat) : List α := S.filter fun x => decide (G.pw x n = G.one)
open Classical in
theorem mem_tors {S : List α} {n : Nat} {x : α} : x ∈ G.tors S n ↔ x ∈ S ∧ G.pw x n = G.one := by unfold tors; simp
theorem tors_sub {S : List α} (hS : G.Sub S) (n : Nat) : G.Sub (G.tors S n) := by
  refine ⟨List.Pairwise.filter _ hS.nd, G.mem_tors.2 ⟨hS.one, G.pw_one n⟩, fun x hx y hy => ?_, fun x hx => ?_⟩
  · obtain ⟨a, b⟩ := G.mem_tors.1 hx
    obtain ⟨c, e⟩ := G.mem_tors.1 hy
    exact G.mem_tors.2 ⟨hS.mul _ a _ c, by rw [G.pw_prod, b, e, G.one_mul]⟩
  · obtain ⟨a, b⟩ := G.mem_tors.1 hx
    exact G.mem_tors.2 ⟨hS.inv _ a, by rw [G.pw_inv, b]; exact (G.inv_uniq (G.one_mul _)).symm⟩
/-- Bezout in natural numbers. -/
theorem bezout : ∀ (a b : Nat), 0 < a → 0 < b → Nat.gcd a b = 1 → ∃ u v, b * v = 1 + a * u := by
  intro a
  induction a using Nat.strongRecOn with
  | ind a ih =>
    intro b ha hb h
    by_cases h1 : a = 1
    · subst h1
      exact ⟨b - 1, 1, by omega⟩
    · have hr : 0 < b % a := by
        rcases Nat.eq_zero_or_pos (b % a) with h0 | h0
        · have : Nat.gcd a b = a := Nat.gcd_eq_left (Nat.dvd_of_mod_eq_zero h0)
          omega
        · exact h0
      have hg : Nat.gcd (b % a) a = 1 := by rw [← Nat.gcd_rec]; exact h
      obtain ⟨u, v, e⟩ := ih (b % a) (Nat.mod_lt _ ha) a hr ha hg
      have hv : 1 ≤ v := by
        rcases Nat.eq_zero_or_pos v with h0 | h0
        · subst h0; omega
        · exact h0
      have hb2 := Nat.div_add_mod b a
      obtain ⟨c, rfl⟩ : ∃ c, a = c + 2 := ⟨a - 2, by omega⟩
      obtain ⟨w, rfl⟩ : ∃ w, v = w + 1 := ⟨v - 1, by omega⟩
      generalize b % (c + 2) = r at *
      generalize b / (c + 2) = q at *
      refine ⟨q * (u * (c + 1)) + w * (c + 1) + c, u * (c + 1), ?_⟩
      rw [← hb2]
      have e2 : r * u = (c + 2) * (w + 1) - 1 := by omega
      have e3 : r * (u * (c + 1)) = ((c + 2) * (w + 1) - 1) * (c + 1) := by rw [← e2, Nat.mul_assoc]
      have e4 : ((c + 2) * (w + 1) - 1) * (c + 1) = 1 + (c + 2) * (w * (c + 1) + c) := by
        have : (c + 2) * (w + 1) - 1 = (c + 2) * w + (c + 1) := by rw [Nat.mul_succ]; omega
        rw [this]
        grind
      rw [Nat.add_mul, e3, e4]
      grind
theorem tors_mul {S : List α} (hS : G.Sub S) {f : α → Nat} (ht : G.Tor S f) {a b : Nat} (ha : 0 < a) (hb : 0 < b) (hm : S.length = a * b) (hc : Nat.Coprime a b) : S.length = (G.tors S a).length * (G.tors S b).length := by
  obtain ⟨u, v, e⟩ := bezout a b ha hb hc
  have hone : ∀ z, G.pw z a = G.one → G.pw z b = G.one → z = G.one := by
    intro z h1 h2
    have k1 : G.pw z (b * v) = G.one := by rw [G.pw_mul, h2, G.pw_one]
    rw [e, G.pw_add, G.pw_mul, h1, G.pw_one, G.mul_one, pw, pw, G.mul_one] at k1
    exact k1
  have hA := G.tors_sub hS a
  have hB := G.tors_sub hS b
  have hl : ∀ (X : List α), (X.flatMap fun h => (G.tors S b).map (G.mul h)).length = X.length * (G.tors S b).length := by
    intro X
    induction X with
    | nil => simp
    | cons x X ih => simp [List.flatMap_cons, ih, Nat.succ_mul]; omega
  rw [← hl]
  refine len_eq hS.nd ?_ ?_ ?_
  · refine List.pairwise_flatMap.2 ⟨fun h _ => List.Pairwise.map _ (fun x y hxy he => hxy (G.cancel he)) hB.nd, ?_⟩
    refine List.Pairwise.imp_of_mem ?_ hA.nd
    intro h h' hh hh' hne x hx y hy he
    obtain ⟨k, hk, rfl⟩ := List.mem_map.1 hx
    obtain ⟨k', hk', rfl⟩ := List.mem_map.1 hy
    have hz : G.mul (G.inv h') h = G.mul k' (G.inv k) := by
      refine G.cancel (x := G.mul h' k) ?_
      have l : G.mul (G.mul h' k) (G.mul (G.inv h') h) = G.mul h k := by
        rw [G.assoc, G.left_comm k, ← G.assoc, G.mul_inv, G.one_mul, G.comm]
      have r : G.mul (G.mul h' k) (G.mul k' (G.inv k)) = G.mul h' k' := by
        rw [G.assoc, G.left_comm k, G.mul_inv, G.mul_one]
      rw [l, r, he]
    have z1 := hone (G.mul (G.inv h') h) (G.mem_tors.1 (hA.mul _ (hA.inv _ hh') _ hh)).2 (by rw [hz]; exact (G.mem_tors.1 (hB.mul _ hk' _ (hB.inv _ hk))).2)
    refine hne ?_
    have := congrArg (G.mul h') z1
    rwa [← G.assoc, G.mul_inv, G.one_mul, G.mul_one] at this
  · intro x hx
    have hx1 := G.pw_size hS ht hx
    rw [hm] at hx1
    have hk : G.pw x (b * (b * v)) = G.pw x b := by
      rw [e, Nat.mul_add, Nat.mul_one, G.pw_add, ← Nat.mul_assoc, Nat.mul_comm b a, G.pw_mul, hx1, G.pw_one, G.mul_one]
    refine List.mem_flatMap.2 ⟨G.pw x (b * v), G.mem_tors.2 ⟨hS.pw G hx _, ?_⟩, List.mem_map.2 ⟨G.mul x (G.inv (G.pw x (b * v))), G.mem_tors.2 ⟨hS.mul _ hx _ (hS.inv _ (hS.pw G hx _)), ?_⟩, ?_⟩⟩
    · rw [← G.pw_mul, Nat.mul_comm (b * v), ← Nat.mul_assoc, G.pw_mul, hx1, G.pw_one]
    · rw [G.pw_prod, G.pw_inv, ← G.pw_mul, Nat.mul_comm (b * v), hk, G.mul_inv]
    · rw [G.left_comm, G.mul_inv, G.mul_one]
  · intro x hx
    obtain ⟨h, hh, hx⟩ := List.mem_flatMap.1 hx
    obtain ⟨k, hk, rfl⟩ := List.mem_map.1 hx
    exact hS.mul _ (G.mem_tors.1 hh).1 _ (G.mem_tors.1 hk).1
/-- As many elements are killed by a as a says, where a and the rest of the size are coprime. -/
theorem tors_len {S : List α} (hS : G.Sub S) {f : α → Nat} (ht : G.Tor S f) {a b : Nat} (ha : 0 < a) (hb : 0 < b) (hm : S.length = a * b) (hc : Nat.Coprime a b) : (G.tors S a).length = a := by
  obtain ⟨k, h1⟩ := G.size_dvd (G.tors_sub hS a) ha (fun x hx => (G.mem_tors.1 hx).2)
  obtain ⟨l, h2⟩ := G.size_dvd (G.tors_sub hS b) hb (fun x hx => (G.mem_tors.1 hx).2)
  have h3 := G.tors_mul hS ht ha hb hm hc
  have c1 : Nat.Coprime (G.tors S a).length b := Nat.Coprime.coprime_dvd_left h1 (Nat.Coprime.pow_left k hc)
  have c2 : Nat.Coprime (G.tors S b).length a := Nat.Coprime.coprime_dvd_left h2 (Nat.Coprime.pow_left l hc.symm)
  have d1 : (G.tors S a).length ∣ a := c1.dvd_of_dvd_mul_right (by rw [← hm, h3]; exact Nat.dvd_mul_right _ _)
  have d2 : (G.tors S b).length ∣ b := c2.dvd_of_dvd_mul_left (by rw [← hm, h3]; exact Nat.dvd_mul_left _ _)
  have l1 := Nat.le_of_dvd ha d1
  have l2 := Nat.le_of_dvd hb d2
  rcases Nat.lt_or_ge (G.tors S a).length a with hlt | hge
  · exfalso
    have : (G.tors S a).length * (G.tors S b).length < a * b := Nat.lt_of_le_of_lt (Nat.mul_le_mul_left _ l2) (Nat.mul_lt_mul_of_pos_right hlt hb)
    omega
  · omega
/-- n is the order of x. -/
def IsO (x : α) (n : Nat) : Prop := 0 < n ∧ G.pw x n = G.one ∧ ∀ k, 0 < k → k < n → G.pw x k ≠ G.one
theorem IsO.dvd {x : α} {n k : Nat} (h : G.IsO x n) (hk : G.pw x k = G.one) : n ∣ k :=
  G.least_dvd (x := x) G.sub_one h.1 (by simp [h.2.1]) (fun k h1 h2 => by simp [h.2.2 k h1 h2]) (by simp [hk])
theorem IsO.of_dvd {x : α} {n k : Nat} (h : G.IsO x n) (hk : n ∣ k) : G.pw x k = G.one := by
  obtain ⟨c, rfl⟩ := hk
  rw [G.pw_mul, h.2.1, G.pw_one]
theorem IsO.mk' {x : α} {n : Nat} (hn : 0 < n) (h : G.pw x n = G.one) (hd : ∀ k, 0 < k → G.pw x k = G.one → n ∣ k) : G.IsO x n :=
  ⟨hn, h, fun k h1 h2 h3 => by have := Nat.le_of_dvd h1 (hd k h1 h3); omega⟩
/-- Orders that are coprime multiply. -/
theorem IsO.mul {x y : α} {a b : Nat} (hx : G.IsO x a) (hy : G.IsO y b) (hc : Nat.Coprime a b) : G.IsO (G.mul x y) (a * b) := by
  refine IsO.mk' G (Nat.mul_pos hx.1 hy.1) ?_ ?_
  · rw [G.pw_prod, G.pw_mul x, hx.2.1, G.pw_one, G.one_mul, Nat.mul_comm, G.pw_mul, hy.2.1, G.pw_one]
  · intro k _ hk
    have h1 : a ∣ k * b := by
      refine hx.dvd G ?_
      have := congrArg (fun z => G.pw z b) hk
      simp only [← G.pw_mul, G.pw_one] at this
      rw [G.pw_prod, Nat.mul_comm k b, G.pw_mul y, hy.2.1, G.pw_one, G.mul_one] at this
      rwa [Nat.mul_comm k b]
    have h2 : b ∣ k * a := by
      refine hy.dvd G ?_
      have := congrArg (fun z => G.pw z a) hk
      simp only [← G.pw_mul, G.pw_one] at this
      rw [G.pw_prod, Nat.mul_comm k a, G.pw_mul x, hx.2.1, G.pw_one, G.one_mul] at this
      rwa [Nat.mul_comm k a]
    exact Nat.Coprime.mul_dvd_of_dvd_of_dvd hc (hc.dvd_of_dvd_mul_right h1) (hc.symm.dvd_of_dvd_mul_right h2)
theorem ord_ex {S : List α} {f : α → Nat} (ht : G.Tor S f) {x : α} (hx : x ∈ S) : ∃ n, G.IsO x n := by
  obtain ⟨N, h1, h2, h3⟩ := least_ex (P := fun k => G.pw x k = G.one) (ht x hx).1 (ht x hx).2
  exact ⟨N, h1, h2, h3⟩
theorem tors_mono {S : List α} {a b : Nat} (h : a ∣ b) : ∀ x ∈ G.tors S a, x ∈ G.tors S b := by
  intro x hx
  obtain ⟨h1, h2⟩ := G.mem_tors.1 hx
  obtain ⟨c, rfl⟩ := h
  exact G.mem_tors.2 ⟨h1, by rw [G.pw_mul, h2, G.pw_one]⟩
theorem tors_dvd {S : List α} (hS : G.Sub S) {f : α → Nat} (ht : G.Tor S f) {a b : Nat} (h : a ∣ b) : (G.tors S a).length ∣ (G.tors S b).length :=
  G.lagrange (G.tors_sub hS b) (G.tors_sub hS a) (G.tors_mono h) (f := f) (fun x hx => ht x (G.mem_tors.1 hx).1)
/-- A divisor of a power of a prime is a power. -/
theorem dvd_pow {p : Nat} (hp : 2 ≤ p) (hpr : ∀ q, q ∣ p → q = 1 ∨ q = p) : ∀ (k n : Nat), n ∣ p ^ k → ∃ j, j ≤ k ∧ n = p ^ j
  | 0, n, h => ⟨0, Nat.le_refl _, by simpa using h⟩
  | k + 1, n, h => by
    rcases hpr (Nat.gcd n p) (Nat.gcd_dvd_right _ _) with h1 | h1
    · have hc : Nat.Coprime n p := h1
      have : n ∣ p ^ k := by
        rw [Nat.pow_succ] at h
        exact hc.dvd_of_dvd_mul_right h
      obtain ⟨j, hj, e⟩ := dvd_pow hp hpr k n this
      exact ⟨j, by omega, e⟩
    · have hpn : p ∣ n := by rw [← h1]; exact Nat.gcd_dvd_left _ _
      obtain ⟨c, rfl⟩ := hpn
      rw [Nat.pow_succ, Nat.mul_comm (p ^ k)] at h
      have := Nat.dvd_of_mul_dvd_mul_left (by omega) h
      obtain ⟨j, hj, rfl⟩ := dvd_pow hp hpr k c this
      exact ⟨j + 1, by omega, by rw [Nat.pow_succ, Nat.mul_comm]⟩
/-- Where fewer elements are killed by p^e than by p^(e+1), there is one of order p^(e+1). -/
theorem ord_pow {S : List α} (hS : G.Sub S) {f : α → Nat} (ht : G.Tor S f) {p e : Nat} (hp : 2 ≤ p) (hpr : ∀ q, q ∣ p → q = 1 ∨ q = p) (h : (G.tors S (p ^ e)).length < (G.tors S (p ^ (e + 1))).length) : ∃ x ∈ S, G.IsO x (p ^ (e + 1)) := by
  have hne : ∃ x, x ∈ G.tors S (p ^ (e + 1)) ∧ x ∉ G.tors S (p ^ e) := by
    refine Classical.byContradiction fun hno => ?_
    have hsub : ∀ x ∈ G.tors S (p ^ (e + 1)), x ∈ G.tors S (p ^ e) := fun x hx => Classical.byContradiction fun hx2 => hno ⟨x, hx, hx2⟩
    have := (G.tors_sub hS (p ^ (e + 1))).nd.length_le_of_subset hsub
    omega
  obtain ⟨x, h1, h2⟩ := hne
  obtain ⟨hxS, hx1⟩ := G.mem_tors.1 h1
  obtain ⟨n, hn⟩ := G.ord_ex ht hxS
  obtain ⟨j, hj, rfl⟩ := dvd_pow hp hpr _ n (hn.dvd G hx1)
  by_cases hje : j = e + 1
  · subst hje; exact ⟨x, hxS, hn⟩
  · exfalso
    refine h2 (G.mem_tors.2 ⟨hxS, hn.of_dvd G ?_⟩)
    exact Nat.pow_dvd_pow p (by omega)
def PrN (p : Nat) : Prop := 2 ≤ p ∧ ∀ q, q ∣ p → q = 1 ∨ q = p
theorem prime_ex : ∀ (n : Nat), 2 ≤ n → ∃ p, PrN p ∧ p ∣ n := by
  intro n
  induction n using Nat.strongRecOn with
  | ind n ih =>
    intro hn
    by_cases h : ∃ q, q ∣ n ∧ q ≠ 1 ∧ q ≠ n
    · obtain ⟨q, h1, h2, h3⟩ := h
      have hq := Nat.le_of_dvd (by omega) h1
      have hq0 : q ≠ 0 := by
        intro h0
        subst h0
        have := Nat.eq_zero_of_zero_dvd h1
        omega
      obtain ⟨p, hp, hd⟩ := ih q (by omega) (by omega)
      exact ⟨p, hp, Nat.dvd_trans hd h1⟩
    · refine ⟨n, ⟨hn, fun q hq => ?_⟩, Nat.dvd_refl _⟩
      refine Classical.byContradiction fun hno => h ⟨q, hq, fun e => hno (.inl e), fun e => hno (.inr e)⟩
theorem part_ex {p : Nat} (hp : PrN p) : ∀ (n : Nat), 0 < n → ∃ e r, n = p ^ e * r ∧ Nat.Coprime p r := by
  intro n
  induction n using Nat.strongRecOn with
  | ind n ih =>
    intro hn
    rcases hp.2 (Nat.gcd p n) (Nat.gcd_dvd_left _ _) with h | h
    · exact ⟨0, n, by simp, h⟩
    · have hd : p ∣ n := by rw [← h]; exact Nat.gcd_dvd_right _ _
      obtain ⟨c, rfl⟩ := hd
      have hc : 0 < c := Nat.pos_of_mul_pos_left hn
      have h2 := hp.1
      have hlt : c < p * c := by
        have := Nat.mul_le_mul_right c h2
        omega
      obtain ⟨e, r, h3, h4⟩ := ih c hlt hc
      exact ⟨e + 1, r, by rw [Nat.pow_succ, Nat.mul_comm (p ^ e), Nat.mul_assoc, ← h3], h4⟩
/-- Elements for all the prime parts make one whose order is the size. -/
theorem ord_all {S : List α} (hS : G.Sub S) (m : Nat) (h : ∀ p e r, PrN p → m = p ^ (e + 1) * r → Nat.Coprime p r → ∃ x ∈ S, G.IsO x (p ^ (e + 1))) : ∀ (n c : Nat), 0 < n → m = n * c → Nat.Coprime n c → ∃ x ∈ S, G.IsO x n := by
  intro n
  induction n using Nat.strongRecOn with
  | ind n ih =>
    intro c hn hm hc
    by_cases h1 : n = 1
    · subst h1
      exact ⟨G.one, hS.one, by omega, G.pw_one 1, fun k h1 h2 => by omega⟩
    · obtain ⟨p, hp, hd⟩ := prime_ex n (by omega)
      obtain ⟨e, r, h2, h3⟩ := part_ex hp n hn
      have he : e ≠ 0 := by
        intro h0
        subst h0
        rw [Nat.pow_zero, Nat.one_mul] at h2
        subst h2
        have : p ∣ 1 := by rw [← h3]; exact Nat.dvd_gcd (Nat.dvd_refl _) hd
        have := Nat.le_of_dvd (by omega) this
        have := hp.1
        omega
      obtain ⟨e, rfl⟩ : ∃ e', e = e' + 1 := ⟨e - 1, by omega⟩
      have hpc : Nat.Coprime p c := Nat.Coprime.coprime_dvd_left hd hc
      have hrn : r ∣ n := by rw [h2]; exact Nat.dvd_mul_left _ _
      have hrc : Nat.Coprime r c := Nat.Coprime.coprime_dvd_left hrn hc
      obtain ⟨x, hx, hxo⟩ := h p e (r * c) hp (by rw [hm, h2, Nat.mul_assoc]) (Nat.Coprime.mul_right h3 hpc)
      have hpp : 2 ≤ p ^ (e + 1) := by
        rw [Nat.pow_succ]
        have h5 := Nat.pow_pos (n := e) (show 0 < p by have := hp.1; omega)
        have := Nat.mul_le_mul h5 hp.1
        omega
      have hr0 : 0 < r := Nat.pos_of_ne_zero (fun h0 => by subst h0; simp at h2; omega)
      have hlt : r < n := by
        rw [h2]
        have := Nat.mul_le_mul_right r hpp
        omega
      have hcp : Nat.Coprime (p ^ (e + 1)) r := Nat.Coprime.pow_left _ h3
      obtain ⟨y, hy, hyo⟩ := ih r hlt (p ^ (e + 1) * c) hr0 (by rw [hm, h2, Nat.mul_comm (p ^ (e + 1)) r, Nat.mul_assoc]) (Nat.Coprime.mul_right hcp.symm hrc)
      refine ⟨G.mul x y, hS.mul _ hx _ hy, ?_⟩
      have := hxo.mul G hyo hcp
      rwa [← h2] at this
/-- In a group with one generator, q elements are killed by a divisor q of the size. -/
theorem cyc_tors {S : List α} (hS : G.Sub S) {x : α} (hx : x ∈ S) (ho : G.IsO x S.length) {q c : Nat} (hq : 0 < q) (hm : S.length = q * c) : (G.tors S q).length = q := by
  have hc : 0 < c := Nat.pos_of_ne_zero (fun h0 => by subst h0; have := ho.1; rw [hm] at this; simp at this)
  have hyo : G.IsO (G.pw x c) q := by
    refine IsO.mk' G hq (by rw [← G.pw_mul, Nat.mul_comm, ← hm, ho.2.1]) fun k _ hk => ?_
    rw [← G.pw_mul] at hk
    have := ho.dvd G hk
    rw [hm, Nat.mul_comm q] at this
    exact Nat.dvd_of_mul_dvd_mul_left hc this
  obtain ⟨p1, p2⟩ := G.pw_sub hyo.1 hyo.2.1 hyo.2.2
  obtain ⟨g1, g2⟩ := G.pw_sub ho.1 ho.2.1 ho.2.2
  have hall : ∀ y ∈ S, y ∈ G.ext [G.one] x S.length := by
    intro y hy
    refine Classical.byContradiction fun hno => ?_
    have hnd : (y :: G.ext [G.one] x S.length).Nodup := List.nodup_cons.2 ⟨hno, g1.nd⟩
    have := hnd.length_le_of_subset (l₂ := S) (fun z hz => by
      rcases List.mem_cons.1 hz with rfl | hz
      · exact hy
      · obtain ⟨j, _, s, hs, rfl⟩ := G.mem_ext.1 hz
        simp at hs; subst hs
        exact hS.mul _ (hS.pw G hx _) _ hS.one)
    rw [List.length_cons, g2] at this
    omega
  have e := len_eq (G.tors_sub hS q).nd p1.nd (fun y hy => by
    obtain ⟨h1, h2⟩ := G.mem_tors.1 hy
    obtain ⟨j, _, s, hs, rfl⟩ := G.mem_ext.1 (hall y h1)
    simp at hs; subst hs
    rw [G.mul_one, ← G.pw_mul] at h2
    have hd := ho.dvd G h2
    rw [hm, Nat.mul_comm j] at hd
    obtain ⟨i, rfl⟩ := Nat.dvd_of_mul_dvd_mul_left hq hd
    refine G.mem_ext.2 ⟨i % q, Nat.mod_lt _ hq, G.one, by simp, ?_⟩
    rw [G.mul_one, G.mul_one, G.pw_mul]
    conv => lhs; rw [← Nat.div_add_mod i q, G.pw_add, G.pw_mul, hyo.2.1, G.pw_one, G.one_mul]) (fun y hy => by
    obtain ⟨j, _, s, hs, rfl⟩ := G.mem_ext.1 hy
    simp at hs; subst hs
    refine G.mem_tors.2 ⟨hS.mul _ (hS.pw G (hS.pw G hx _) _) _ hS.one, ?_⟩
    rw [G.mul_one, ← G.pw_mul, Nat.mul_comm j, G.pw_mul, hyo.2.1, G.pw_one])
  rw [e, p2]
end Ab
end

section
open Go.RowKit

noncomputable def clG {d : Int} (D : Dsc d) : Ab {f : Fm // f ∈ clsL d} where
  mul x y := ⟨cmp d x.1 y.1, D.cmpm x.2 y.2⟩
  one := ⟨oneF d, D.one⟩
  inv x := ⟨red (oppF x.1), D.opp_mem x.2 (CF.of_mem D x.2).df⟩
  comm x y := Subtype.ext (D.comm x.2 y.2)
  assoc x y z := Subtype.ext (D.assoc x.2 y.2 z.2)
  one_mul x := Subtype.ext (D.one_mul x.2)
  inv_mul x := Subtype.ext (by
    show cmp d (red (oppF x.1)) x.1 = oneF d
    rw [D.comm (D.opp_mem x.2 (CF.of_mem D x.2).df) x.2]
    exact D.inv x.2 (CF.of_mem D x.2).df)
theorem clG_pw {d : Int} (D : Dsc d) (x : {f : Fm // f ∈ clsL d}) : ∀ n, ((clG D).pw x n).1 = pw d x.1 n
  | 0 => rfl
  | n + 1 => by
    show cmp d x.1 ((clG D).pw x n).1 = cmp d (pw d x.1 n) x.1
    rw [clG_pw D x n, D.comm x.2 (D.pwm x.2 n)]
theorem clG_all {d : Int} (D : Dsc d) : (clG D).Sub (clsL d).attach := by
  refine ⟨?_, List.mem_attach _ _, fun _ _ _ _ => List.mem_attach _ _, fun _ _ => List.mem_attach _ _⟩
  have h := clsL_nodup d
  rw [← List.attach_map_subtype_val (clsL d)] at h
  exact List.Pairwise.of_map _ (fun a b hab he => hab (congrArg Subtype.val he)) h
theorem clG_ord {d : Int} (D : Dsc d) (x : {f : Fm // f ∈ clsL d}) : (clG D).IsO x (ordF d x.1) := by
  obtain ⟨h1, h2, h3⟩ := (D.ordm x.2).1
  refine ⟨h1, Subtype.ext (by rw [clG_pw]; exact h2), fun k k1 k2 he => h3 k k1 k2 ?_⟩
  rw [← clG_pw D, he]
  rfl
theorem clG_tor {d : Int} (D : Dsc d) : (clG D).Tor (clsL d).attach (fun x => ordF d x.1) := fun x _ => ⟨(clG_ord D x).1, (clG_ord D x).2.1⟩
/-- How many classes have an order that divides q. -/
noncomputable def cntO (d : Int) (q : Nat) : Nat := ((clsL d).filter fun f => q % ordF d f == 0).length
theorem cnt_tors {d : Int} (D : Dsc d) (q : Nat) : cntO d q = ((clG D).tors (clsL d).attach q).length := by
  unfold cntO Ab.tors
  conv => lhs; rw [← List.attach_map_subtype_val (clsL d)]
  rw [List.filter_map, List.length_map]
  congr 1
  refine List.filter_congr fun x _ => ?_
  rw [Bool.eq_iff_iff]
  simp only [Function.comp_apply, beq_iff_eq, decide_eq_true_eq]
  constructor
  · intro h
    exact (clG_ord D x).of_dvd _ (Nat.dvd_of_mod_eq_zero h)
  · intro h
    exact Nat.mod_eq_zero_of_dvd ((clG_ord D x).dvd _ h)
theorem att_len (d : Int) : (clsL d).attach.length = (clsL d).length := List.length_attach
theorem cnt_part {d : Int} (D : Dsc d) {a b : Nat} (ha : 0 < a) (hb : 0 < b) (hm : (clsL d).length = a * b) (hc : Nat.Coprime a b) : cntO d a = a := by
  rw [cnt_tors D]
  exact (clG D).tors_len (clG_all D) (clG_tor D) ha hb (by rw [att_len]; exact hm) hc
theorem cnt_dvd {d : Int} (D : Dsc d) {a b : Nat} (h : a ∣ b) : cntO d a ∣ cntO d b := by
  rw [cnt_tors D, cnt_tors D]
  exact (clG D).tors_dvd (clG_all D) (clG_tor D) h
theorem cnt_pos {d : Int} (D : Dsc d) (q : Nat) : 0 < cntO d q := by
  rw [cnt_tors D]
  exact List.length_pos_of_mem ((clG D).tors_sub (clG_all D) q).one
theorem cnt_pow {d : Int} (D : Dsc d) {p : Nat} (hp : Ab.PrN p) (e : Nat) : ∃ j, cntO d (p ^ e) = p ^ j := by
  rw [cnt_tors D]
  have h0 : 0 < p ^ e := Nat.pow_pos (by have := hp.1; omega)
  obtain ⟨k, hk⟩ := (clG D).size_dvd ((clG D).tors_sub (clG_all D) (p ^ e)) h0 (fun x hx => ((clG D).mem_tors.1 hx).2)
  rw [← Nat.pow_mul] at hk
  obtain ⟨j, _, hj⟩ := Ab.dvd_pow hp.1 hp.2 _ _ hk
  exact ⟨j, hj⟩
theorem cnt_cyc {d : Int} (D : Dsc d) {f : Fm} (hf : f ∈ clsL d) (ho : ordF d f = (clsL d).length) {q c : Nat} (hq : 0 < q) (hm : (clsL d).length = q * c) : cntO d q = q := by
  rw [cnt_tors D]
  have hO := clG_ord D ⟨f, hf⟩
  rw [show ordF d (⟨f, hf⟩ : {f : Fm // f ∈ clsL d}).1 = (clsL d).attach.length from by rw [att_len]; exact ho] at hO
  exact (clG D).cyc_tors (clG_all D) (List.mem_attach _ _) hO hq (by rw [att_len]; exact hm)
theorem cyc_of {d : Int} (D : Dsc d) (h : ∀ p e r, Ab.PrN p → (clsL d).length = p ^ (e + 1) * r → Nat.Coprime p r → cntO d (p ^ e) < cntO d (p ^ (e + 1))) : ∃ f ∈ clsL d, ordF d f = (clsL d).length := by
  have hm : 0 < (clsL d).length := List.length_pos_of_mem D.one
  obtain ⟨x, _, hx⟩ := (clG D).ord_all (clG_all D) (clsL d).length (fun p e r hp h1 h2 => (clG D).ord_pow (clG_all D) (clG_tor D) hp.1 hp.2 (by
    rw [← cnt_tors D, ← cnt_tors D]
    exact h p e r hp h1 h2)) (clsL d).length 1 hm (by omega) (Nat.coprime_one_right _)
  refine ⟨x.1, x.2, ?_⟩
  have hy := clG_ord D x
  have d1 := hx.dvd _ hy.2.1
  have d2 := hy.dvd _ hx.2.1
  exact Nat.dvd_antisymm d2 d1
end

section
open Go.RowKit

/-- The first k places times p; a place that is lacking counts as 1. -/
def bumpL : List Int → Nat → Int → List Int
  | out, 0, _ => out
  | [], k + 1, p => p :: bumpL [] k p
  | x :: out, k + 1, p => x * p :: bumpL out k p
theorem bumpL_zero (out : List Int) (p : Int) : bumpL out 0 p = out := by cases out <;> rfl
theorem bumpL_len : ∀ (out : List Int) (k : Nat) (p : Int), (bumpL out k p).length = max out.length k
  | out, 0, p => by rw [bumpL_zero]; simp
  | [], k + 1, p => by simp [bumpL, bumpL_len [] k p]
  | x :: out, k + 1, p => by
    simp only [bumpL, List.length_cons, bumpL_len out k p]
    omega
/-- How many parts of the p-part have a size that p^(i+1) divides. -/
noncomputable def rkP (d : Int) (p i : Nat) : Nat := (expo p ((cntO d (p ^ (i + 1)) : Int) / (cntO d (p ^ i) : Int))).toNat
noncomputable def facP (d : Int) (p : Nat) (out : List Int) : Nat → List Int
  | 0 => out
  | e + 1 => bumpL (facP d p out e) (rkP d p e) p
theorem expo_one {p : Int} (hp : 2 ≤ p) : expo p 1 = 0 := by
  unfold expo
  exact expG_no (by rw [Int.emod_eq_of_lt (by omega) (by omega)]; omega)
theorem cnt_one {d : Int} (D : Dsc d) : cntO d 1 = 1 := cnt_part D (a := 1) (b := (clsL d).length) (by omega) (List.length_pos_of_mem D.one) (by omega) (Nat.coprime_one_left _)
theorem rk_stop {d : Int} (D : Dsc d) {p e r i j : Nat} (hp : Ab.PrN p) (hr : 0 < r) (hm : (clsL d).length = p ^ e * r) (hc : Nat.Coprime p r) (hi : cntO d (p ^ i) = p ^ e) (hij : i ≤ j) (hje : j < e) : rkP d p j = 0 := by
  have hpp := fun n => Nat.pow_pos (n := n) (show 0 < p by have := hp.1; omega)
  have he : cntO d (p ^ e) = p ^ e := cnt_part D (hpp e) hr hm (Nat.Coprime.pow_left _ hc)
  have hval : ∀ k, i ≤ k → k ≤ e → cntO d (p ^ k) = p ^ e := fun k h1 h2 => by
    have a := cnt_dvd D (Nat.pow_dvd_pow p h1)
    have b := cnt_dvd D (Nat.pow_dvd_pow p h2)
    rw [hi] at a
    rw [he] at b
    exact Nat.dvd_antisymm b a
  unfold rkP
  rw [hval j hij (by omega), hval (j + 1) (by omega) (by omega), Int.ediv_self (by have := hpp e; omega), expo_one (by have := hp.1; omega)]
  rfl
theorem facP_stop {d : Int} (D : Dsc d) {p e r i : Nat} (out : List Int) (hp : Ab.PrN p) (hr : 0 < r) (hm : (clsL d).length = p ^ e * r) (hc : Nat.Coprime p r) (hi : cntO d (p ^ i) = p ^ e) : ∀ j, i + j ≤ e → facP d p out (i + j) = facP d p out i
  | 0, _ => rfl
  | j + 1, h => by
    rw [← Nat.add_assoc, facP, rk_stop D hp hr hm hc hi (by omega) (by omega), bumpL_zero, facP_stop D out hp hr hm hc hi j (by omega)]
/-- As long as fewer are counted than the p-part has, the next power of p divides the size. -/
theorem cnt_lt {d : Int} (D : Dsc d) {p e r i : Nat} (hp : Ab.PrN p) (hr : 0 < r) (hm : (clsL d).length = p ^ e * r) (hc : Nat.Coprime p r) (hi : cntO d (p ^ i) < p ^ e) : i < e := by
  have hpp := fun n => Nat.pow_pos (n := n) (show 0 < p by have := hp.1; omega)
  have he : cntO d (p ^ e) = p ^ e := cnt_part D (hpp e) hr hm (Nat.Coprime.pow_left _ hc)
  rcases Nat.lt_or_ge i e with h | h
  · exact h
  · have := Nat.le_of_dvd (cnt_pos D _) (cnt_dvd D (Nat.pow_dvd_pow p h))
    omega
theorem cnt_le {d : Int} (D : Dsc d) {p e r i : Nat} (hp : Ab.PrN p) (hr : 0 < r) (hm : (clsL d).length = p ^ e * r) (hc : Nat.Coprime p r) (hi : i ≤ e) : cntO d (p ^ i) ≤ p ^ e := by
  have hpp := fun n => Nat.pow_pos (n := n) (show 0 < p by have := hp.1; omega)
  have he : cntO d (p ^ e) = p ^ e := cnt_part D (hpp e) hr hm (Nat.Coprime.pow_left _ hc)
  have := Nat.le_of_dvd (cnt_pos D _) (cnt_dvd D (Nat.pow_dvd_pow p hi))
  omega
theorem facP_len {d : Int} (p : Nat) (out : List Int) : ∀ e n, ((facP d p out e).length ≤ n ↔ out.length ≤ n ∧ ∀ i, i < e → rkP d p i ≤ n)
  | 0, n => by simp [facP]
  | e + 1, n => by
    rw [facP, bumpL_len, Nat.max_le, facP_len p out e n]
    constructor
    · rintro ⟨⟨h1, h2⟩, h3⟩
      exact ⟨h1, fun i hi => by
        by_cases e1 : i = e
        · subst e1; exact h3
        · exact h2 i (by omega)⟩
    · rintro ⟨h1, h2⟩
      exact ⟨⟨h1, fun i hi => h2 i (by omega)⟩, h2 e (by omega)⟩
/-- The exponent of p in a power of p. -/
theorem expG_pow {p : Nat} (hp : 2 ≤ p) : ∀ (j k : Nat), j < k → expG k p ((p ^ j : Nat) : Int) = j
  | 0, k, _ => by
    rw [Nat.pow_zero]
    exact expG_no (by rw [show ((1 : Nat) : Int) = 1 from rfl, Int.emod_eq_of_lt (by omega) (by omega)]; omega)
  | j + 1, k, h => by
    have e1 : (((p ^ (j + 1) : Nat) : Int)) = (p ^ j : Nat) * (p : Int) := by rw [Nat.pow_succ]; simp
    rw [expG_yes (by omega) (by rw [e1]; simp), e1, Int.mul_ediv_cancel _ (by omega), expG_pow hp j (k - 1) (by omega)]
    omega
theorem expo_pow {p : Nat} (hp : 2 ≤ p) (j : Nat) : expo p ((p ^ j : Nat) : Int) = j := by
  unfold expo
  refine expG_pow hp j _ ?_
  have : j < p ^ j := Nat.lt_pow_self (by omega)
  omega
/-- No more than one part at any power: then few elements are killed. -/
theorem cnt_few {d : Int} (D : Dsc d) {p : Nat} (hp : Ab.PrN p) : ∀ e, (∀ i, i < e → rkP d p i ≤ 1) → cntO d (p ^ e) ≤ p ^ e
  | 0, _ => by rw [Nat.pow_zero, cnt_one D]; omega
  | e + 1, h => by
    have ih := cnt_few D hp e (fun i hi => h i (by omega))
    have h1 := h e (by omega)
    obtain ⟨a, ha⟩ := cnt_pow D hp e
    obtain ⟨b, hb⟩ := cnt_pow D hp (e + 1)
    have hd := cnt_dvd D (Nat.pow_dvd_pow p (show e ≤ e + 1 by omega))
    have hp2 := hp.1
    have hle : a ≤ b := by
      rw [ha, hb] at hd
      exact (Nat.pow_dvd_pow_iff_le_right (by omega)).1 hd
    have hq : ((cntO d (p ^ (e + 1)) : Int) / (cntO d (p ^ e) : Int)) = ((p ^ (b - a) : Nat) : Int) := by
      rw [ha, hb, ← Int.natCast_ediv, Nat.pow_div hle (by omega)]
    unfold rkP at h1
    rw [hq, expo_pow hp2] at h1
    rw [hb, show b = a + (b - a) by omega, Nat.pow_add, ← ha, Nat.pow_succ]
    refine Nat.mul_le_mul ih ?_
    have h3 : b - a ≤ 1 := by simpa using h1
    calc p ^ (b - a) ≤ p ^ 1 := Nat.pow_le_pow_right (by omega) h3
      _ = p := Nat.pow_one p
/-- One class has all classes as powers just if no power of a prime has two parts. -/
theorem cyc_iff {d : Int} (D : Dsc d) : (∀ p e r, Ab.PrN p → (clsL d).length = p ^ e * r → Nat.Coprime p r → ∀ i, i < e → rkP d p i ≤ 1) ↔ ∃ f ∈ clsL d, ordF d f = (clsL d).length := by
  have hm0 : 0 < (clsL d).length := List.length_pos_of_mem D.one
  constructor
  · intro h
    refine cyc_of D fun p e r hp hm hc => ?_
    have hpp := fun n => Nat.pow_pos (n := n) (show 0 < p by have := hp.1; omega)
    have hr : 0 < r := Nat.pos_of_ne_zero (fun h0 => by subst h0; rw [Nat.mul_zero] at hm; omega)
    have h1 := cnt_few D hp e (fun i hi => h p (e + 1) r hp hm hc i (by omega))
    have h2 : cntO d (p ^ (e + 1)) = p ^ (e + 1) := cnt_part D (hpp _) hr hm (Nat.Coprime.pow_left _ hc)
    rw [h2]
    refine Nat.lt_of_le_of_lt h1 ?_
    rw [Nat.pow_succ]
    have := Nat.mul_le_mul_left (p ^ e) hp.1
    have := hpp e
    omega
  · rintro ⟨f, hf, ho⟩ p e r hp hm hc i hi
    have hp2 := hp.1
    have hpp := fun n => Nat.pow_pos (n := n) (show 0 < p by omega)
    have hval : ∀ k, k ≤ e → cntO d (p ^ k) = p ^ k := fun k hk => cnt_cyc D hf ho (hpp k) (c := p ^ (e - k) * r) (by
      rw [hm, ← Nat.mul_assoc, ← Nat.pow_add]
      congr 2
      omega)
    unfold rkP
    rw [hval i (by omega), hval (i + 1) (by omega), ← Int.natCast_ediv, Nat.pow_div (by omega) (by omega), expo_pow hp2]
    simp
end

section
open Go.RowKit

/-- A prime, as the list of factors has it. -/
def PrI (y : Int) : Prop := 2 ≤ y ∧ NoDiv y y
theorem fac_last {p n : Int} (hp : 2 ≤ p) (hd : NoDiv p n) (h : ¬ p * p ≤ n) {q : Int} (h2 : 2 ≤ q) (hq : q ∣ n) (hn : 1 ≤ n) : q = n := by
  obtain ⟨c, rfl⟩ := hq
  have hqp : p ≤ q := Int.not_lt.1 fun hl => hd q h2 hl (Int.dvd_mul_right _ _)
  have hc0 : 0 < c := by
    apply Int.not_le.1; intro hl
    have : q * c ≤ q * 0 := Int.mul_le_mul_of_nonneg_left hl (by omega)
    omega
  by_cases hc : c = 1
  · subst hc; omega
  · exfalso
    have hcp : p ≤ c := Int.not_lt.1 fun hl => hd c (by omega) hl (Int.dvd_mul_left _ _)
    have h3 : p * p ≤ q * c := Int.mul_le_mul hqp hcp (by omega) (by omega)
    omega
theorem fac_pr : ∀ (k : Nat) (b : Bool) (p n : Int), 2 ≤ p → 1 ≤ n → NoDiv p n → ∀ y ∈ fac k b p n, PrI y ∧ y ∣ n
  | 0, _, _, _, _, _, _ => by simp [fac]
  | k + 1, false, p, n, hp, hn, hd => by
    unfold fac
    split
    · exact fac_pr k true p n hp hn hd
    · rename_i h
      split
      · rename_i h1
        intro y hy
        simp at hy
        subst hy
        exact ⟨⟨by omega, fun q h2 h3 h4 => by have := fac_last hp hd h h2 h4 hn; omega⟩, Int.dvd_refl _⟩
      · simp
  | k + 1, true, p, n, hp, hn, hd => by
    unfold fac
    split
    · rename_i h
      have hpn := Int.dvd_of_emod_eq_zero h
      have e := Int.emod_add_mul_ediv n p
      rw [h] at e
      have hq : 1 ≤ n / p := by
        apply Int.not_lt.1; intro hl
        have : p * (n / p) ≤ p * 0 := Int.mul_le_mul_of_nonneg_left (by omega) (by omega)
        omega
      intro y hy
      simp at hy
      rcases hy with rfl | hy
      · exact ⟨⟨hp, fun q h2 h3 h4 => hd q h2 h3 (Int.dvd_trans h4 hpn)⟩, hpn⟩
      · obtain ⟨a, c⟩ := fac_pr k true p (n / p) hp hq (hd.div h) y hy
        exact ⟨a, by rw [← e, Int.zero_add]; exact Int.dvd_trans c (Int.dvd_mul_left _ _)⟩
    · rename_i h
      exact fac_pr k false (p + 1) n (by omega) hn (hd.next h)
theorem prI_nat {y : Int} (h : PrI y) : Ab.PrN y.toNat := by
  obtain ⟨h1, h2⟩ := h
  refine ⟨by omega, fun q hq => ?_⟩
  have hle := Nat.le_of_dvd (by omega) hq
  have hq0 : q ≠ 0 := fun e => by subst e; have := Nat.eq_zero_of_zero_dvd hq; omega
  refine Classical.byContradiction fun hno => ?_
  have h3 : q ≠ 1 := fun e => hno (.inl e)
  have h4 : q ≠ y.toNat := fun e => hno (.inr e)
  refine h2 q (by omega) (by omega) ?_
  have : (q : Int) ∣ (y.toNat : Int) := Int.natCast_dvd_natCast.2 hq
  rwa [Int.toNat_of_nonneg (by omega)] at this
theorem fac_all (N : Int) (hN : N ≤ 64000000) : ∀ (k : Nat) (b : Bool) (p n : Int), 2 ≤ p → 1 ≤ n → n ≤ N → NoDiv p n → (b = true → p * p ≤ N) → (b = false → (p - 1) * (p - 1) ≤ N) → 4 * n - 2 * p + 18000 - (if b then 1 else 0) < k → ∀ q, PrI q → q ∣ n → q ∈ fac k b p n
  | 0, b, p, n, hp, hn, hnN, hd, h1, h2, hk => by
    intro q _ _
    exfalso
    have h5 : p ≤ 8001 := by
      apply Int.not_lt.1; intro hl
      cases b with
      | true =>
        have := h1 rfl
        have : 8001 * 8001 ≤ p * p := Int.mul_le_mul (by omega) (by omega) (by omega) (by omega)
        omega
      | false =>
        have := h2 rfl
        have : 8001 * 8001 ≤ (p - 1) * (p - 1) := Int.mul_le_mul (by omega) (by omega) (by omega) (by omega)
        omega
    cases b <;> simp at hk <;> omega
  | k + 1, false, p, n, hp, hn, hnN, hd, h1, h2, hk => by
    intro q hq hqn
    unfold fac
    split
    · rename_i h
      exact fac_all N hN k true p n hp hn hnN hd (fun _ => by omega) (by simp) (by simp at hk ⊢; omega) q hq hqn
    · rename_i h
      have e := fac_last hp hd h hq.1 hqn hn
      have h9 := hq.1
      rw [if_pos (by omega)]
      simp [e]
  | k + 1, true, p, n, hp, hn, hnN, hd, h1, h2, hk => by
    intro q hq hqn
    unfold fac
    split
    · rename_i h
      have hpn := Int.dvd_of_emod_eq_zero h
      have e := Int.emod_add_mul_ediv n p
      rw [h, Int.zero_add] at e
      have hq1 : 1 ≤ n / p := by
        apply Int.not_lt.1; intro hl
        have : p * (n / p) ≤ p * 0 := Int.mul_le_mul_of_nonneg_left (by omega) (by omega)
        omega
      have hlt : n / p < n := by
        have : 2 * (n / p) ≤ p * (n / p) := Int.mul_le_mul_of_nonneg_right hp (by omega)
        omega
      by_cases hqp : q = p
      · simp [hqp]
      · have hg : Int.gcd q p = 1 := by
          have hgp : ((Int.gcd q p : Nat) : Int) ∣ p := Int.gcd_dvd_right ..
          have hgq : ((Int.gcd q p : Nat) : Int) ∣ q := Int.gcd_dvd_left ..
          have hpos : 0 < Int.gcd q p := Nat.pos_of_ne_zero (fun h0 => by rw [h0] at hgp; have := Int.zero_dvd.1 hgp; omega)
          refine Classical.byContradiction fun hno => ?_
          have hle := Int.le_of_dvd (by omega) hgp
          have hle2 := Int.le_of_dvd (by have := hq.1; omega) hgq
          rcases Int.lt_or_eq_of_le hle2 with hl | he
          · exact hq.2 _ (by omega) hl hgq
          · rw [he] at hgp hle
            exact hd q hq.1 (by omega) (Int.dvd_trans hgp hpn)
        have hqd : q ∣ n / p := by
          have h6 : q.natAbs ∣ p.natAbs * (n / p).natAbs := by rw [← Int.natAbs_mul, e]; exact Int.natAbs_dvd_natAbs.2 hqn
          exact Int.natAbs_dvd_natAbs.1 ((show Nat.Coprime q.natAbs p.natAbs from hg).dvd_of_dvd_mul_left h6)
        exact List.mem_cons_of_mem _ (fac_all N hN k true p (n / p) hp hq1 (by omega) (hd.div h) h1 h2 (by simp at hk ⊢; omega) q hq hqd)
    · rename_i h
      exact fac_all N hN k false (p + 1) n (by omega) hn hnN (hd.next h) (by simp) (fun _ => by have := h1 rfl; rwa [Int.add_sub_cancel]) (by simp at hk ⊢; omega) q hq hqn
theorem mem_addD {P : List Int} {f x : Int} : x ∈ addD P f ↔ x ∈ P ∨ x = f := by
  unfold addD
  split
  · rename_i h
    have := List.mem_of_getLast? h
    constructor
    · exact .inl
    · rintro (h | rfl)
      · exact h
      · exact this
  · simp
theorem mem_foldD : ∀ (F P : List Int) (x : Int), x ∈ F.foldl addD P ↔ x ∈ P ∨ x ∈ F
  | [], P, x => by simp
  | f :: F, P, x => by
    rw [List.foldl_cons, mem_foldD F, mem_addD, List.mem_cons]
    constructor
    · rintro ((h | h) | h)
      · exact .inl h
      · exact .inr (.inl h)
      · exact .inr (.inr h)
    · rintro (h | h | h)
      · exact .inl (.inl h)
      · exact .inl (.inr h)
      · exact .inr h
/-- The different prime factors are just the primes that divide. -/
theorem mem_prims {n x : Int} (hn : 1 ≤ n) (h2 : n ≤ 64000000) : x ∈ prims n ↔ PrI x ∧ x ∣ n := by
  have hd : NoDiv 2 n := fun q h1 h2 _ => by omega
  unfold prims
  rw [mem_foldD]
  constructor
  · rintro (h | h)
    · simp at h
    · exact fac_pr _ false 2 n (by omega) hn hd x h
  · rintro ⟨h1, h3⟩
    exact .inr (fac_all 64000000 (by omega) _ false 2 n (by omega) hn h2 hd (by simp) (by simp) (by simp; omega) x h1 h3)
end
end Go.Proofs.Ytdhennlanngjgaa
