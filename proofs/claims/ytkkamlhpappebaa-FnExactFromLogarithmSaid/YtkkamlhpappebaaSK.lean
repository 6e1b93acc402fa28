/- Plain facts: a basis of a finite abelian group, found from the greatest factor on. -/
import Derived.Test.YtkkamlhpappebaaSY
namespace Go.Proofs.Ytkkamlhpappebaa
section
open Classical
theorem len_splitK {α : Type} (p : α → Bool) : ∀ L : List α, L.length = (L.filter p).length + (L.filter fun x => !p x).length
  | [] => rfl
  | x :: L => by
    have := len_splitK p L
    cases h : p x <;> simp [h] <;> omega
theorem fib_leK {α β : Type} (f : α → β) (n : Nat) : ∀ (M : List β) (L : List α), (∀ x ∈ L, f x ∈ M) → (∀ b ∈ M, (L.filter fun x => decide (f x = b)).length ≤ n) → L.length ≤ M.length * n
  | [], L, h, _ => by
    cases L with
    | nil => simp
    | cons x L => exact absurd (h x (by simp)) (by simp)
  | b :: M, L, h, hn => by
    have h1 := len_splitK (fun x => decide (f x = b)) L
    have h2 := fib_leK f n M (L.filter fun x => !decide (f x = b)) (fun x hx => by
      obtain ⟨hx1, hx2⟩ := List.mem_filter.1 hx
      rcases List.mem_cons.1 (h x hx1) with h3 | h3
      · simp [h3] at hx2
      · exact h3) (fun c hc => by
      refine Nat.le_trans ?_ (hn c (by simp [hc]))
      exact (List.Sublist.filter _ List.filter_sublist).length_le)
    have h3 := hn b (by simp)
    rw [List.length_cons, Nat.succ_mul]
    omega
theorem inj_lenK {α β : Type} {A : List α} {B : List β} (g : α → β) (hA : A.Nodup) (hm : ∀ x ∈ A, g x ∈ B) (hi : ∀ x ∈ A, ∀ y ∈ A, g x = g y → x = y) : A.length ≤ B.length := by
  have h1 : (A.map g).Nodup := by
    have : ∀ A : List α, A.Nodup → (∀ x ∈ A, ∀ y ∈ A, g x = g y → x = y) → (A.map g).Nodup := by
      intro A
      induction A with
      | nil => intro _ _; simp
      | cons a A ih =>
        intro hA hi
        obtain ⟨h1, h2⟩ := List.nodup_cons.1 hA
        rw [List.map_cons, List.nodup_cons]
        refine ⟨fun h => ?_, ih h2 fun x hx y hy => hi x (by simp [hx]) y (by simp [hy])⟩
        obtain ⟨y, hy, he⟩ := List.mem_map.1 h
        have := hi y (by simp [hy]) a (by simp) he
        exact h1 (this ▸ hy)
    exact this A hA hi
  have h2 := h1.length_le_of_subset (l₂ := B) (fun y hy => by
    obtain ⟨x, hx, rfl⟩ := List.mem_map.1 hy
    exact hm x hx)
  simpa using h2
end
namespace Ab
variable {α : Type} (G : Ab α)
theorem len_filter_dvd {t p : Nat} (ht : 0 < t) (hp : 0 < p) : ((List.range t).filter fun a => decide (t ∣ a * p)).length ≤ p := by
  have h := inj_lenK (A := (List.range t).filter fun a => decide (t ∣ a * p)) (B := List.range p) (fun a => a * p / t) (List.Nodup.sublist List.filter_sublist List.nodup_range) (fun a ha => by
    obtain ⟨h1, h2⟩ := List.mem_filter.1 ha
    rw [List.mem_range] at h1 ⊢
    rw [Nat.div_lt_iff_lt_mul ht, Nat.mul_comm]
    exact Nat.mul_lt_mul_of_pos_left h1 hp) (fun a ha b hb he => by
    obtain ⟨_, h2⟩ := List.mem_filter.1 ha
    obtain ⟨_, h3⟩ := List.mem_filter.1 hb
    rw [decide_eq_true_eq] at h2 h3
    have e1 := Nat.div_mul_cancel h2
    have e2 := Nat.div_mul_cancel h3
    have he' : a * p / t = b * p / t := he
    rw [he', e2] at e1
    exact Nat.eq_of_mul_eq_mul_right hp e1.symm)
  simpa using h
theorem mul_one_inv {x y : α} (h : G.mul x y = G.one) : x = G.inv y := G.inv_uniq (by rw [G.comm]; exact h)
open Classical in
theorem tors_ext_le {T : List α} (hT : G.Sub T) {x : α} {t : Nat} (ht : 0 < t) (h1 : G.pw x t ∈ T) (hmin : ∀ k, 0 < k → k < t → G.pw x k ∉ T) {p : Nat} (hp : 0 < p) :
    (G.tors (G.ext T x t) p).length ≤ p * (G.tors T p).length := by
  have hE := G.ext_sub hT ht h1 hmin
  have hTE := G.tors_sub hE p
  let f : α → Nat := fun y => if h : ∃ a, a < t ∧ ∃ s ∈ T, y = G.mul (G.pw x a) s then h.choose else 0
  have hf : ∀ y ∈ G.ext T x t, f y < t ∧ ∃ s ∈ T, y = G.mul (G.pw x (f y)) s := fun y hy => by
    have h := G.mem_ext.1 hy
    have e : f y = h.choose := dif_pos h
    rw [e]
    exact h.choose_spec
  have hM : ∀ y ∈ G.tors (G.ext T x t) p, f y ∈ (List.range t).filter fun a => decide (t ∣ a * p) := fun y hy => by
    obtain ⟨hy1, hy2⟩ := G.mem_tors.1 hy
    obtain ⟨q1, s, hs, hq⟩ := hf y hy1
    refine List.mem_filter.2 ⟨List.mem_range.2 q1, ?_⟩
    rw [decide_eq_true_eq]
    refine G.least_dvd hT ht h1 hmin ?_
    generalize f y = a at hq
    rw [hq, G.pw_prod, ← G.pw_mul] at hy2
    rw [G.mul_one_inv hy2]
    exact hT.inv _ (hT.pw G hs p)
  have hfib : ∀ b ∈ (List.range t).filter fun a => decide (t ∣ a * p), ((G.tors (G.ext T x t) p).filter fun y => decide (f y = b)).length ≤ (G.tors T p).length := fun b _ => by
    have hnd : ((G.tors (G.ext T x t) p).filter fun y => decide (f y = b)).Nodup := List.Nodup.sublist List.filter_sublist hTE.nd
    by_cases h0 : (G.tors (G.ext T x t) p).filter (fun y => decide (f y = b)) = []
    · rw [h0]; simp
    · obtain ⟨y0, hy0⟩ := List.exists_mem_of_ne_nil _ h0
      obtain ⟨k1, k2⟩ := List.mem_filter.1 hy0
      rw [decide_eq_true_eq] at k2
      obtain ⟨k3, k4⟩ := G.mem_tors.1 k1
      obtain ⟨_, s0, hs0, e0⟩ := hf y0 k3
      rw [k2] at e0
      refine inj_lenK (fun y => G.mul y (G.inv y0)) hnd (fun y hy => ?_) (fun y _ z _ he => ?_)
      · obtain ⟨m1, m2⟩ := List.mem_filter.1 hy
        rw [decide_eq_true_eq] at m2
        obtain ⟨m3, m4⟩ := G.mem_tors.1 m1
        obtain ⟨_, s, hs, e⟩ := hf y m3
        rw [m2] at e
        refine G.mem_tors.2 ⟨?_, ?_⟩
        · have : G.mul y (G.inv y0) = G.mul s (G.inv s0) := by
            apply G.cancel (x := y0)
            rw [G.left_comm, G.mul_inv, G.mul_one, e0, e, G.assoc, G.left_comm s0, G.mul_inv, G.mul_one]
          rw [this]
          exact hT.mul _ hs _ (hT.inv _ hs0)
        · rw [G.pw_prod, m4, G.pw_inv, k4, G.one_mul]
          exact (G.inv_uniq (G.one_mul _)).symm
      · have he' : G.mul y (G.inv y0) = G.mul z (G.inv y0) := he
        rw [G.comm y, G.comm z] at he'
        exact G.cancel he'
  refine Nat.le_trans (fib_leK f _ _ _ hM (fun b hb => by
    refine Nat.le_trans (Nat.le_of_eq ?_) (hfib b hb)
    congr 1
    exact List.filter_congr fun y _ => by congr)) ?_
  exact Nat.mul_le_mul_right _ (len_filter_dvd ht hp)
/-- What some elements generate, as a list; its p-part is small. -/
theorem span_ex {S : List α} (hS : G.Sub S) {f : α → Nat} (ht : G.Tor S f) : ∀ J : List α, (∀ j ∈ J, j ∈ S) → ∃ T, G.Sub T ∧ (∀ x ∈ T, x ∈ S) ∧ (∀ j ∈ J, j ∈ T) ∧
    (∀ U : α → Prop, U G.one → (∀ x, U x → ∀ j ∈ J, U (G.mul x j)) → ∀ x ∈ T, U x) ∧ ∀ p, 0 < p → (G.tors T p).length ≤ p ^ J.length
  | [], _ => ⟨[G.one], G.sub_one, by simp [hS.one], by simp, fun U h _ x hx => by simp at hx; subst hx; exact h, fun p _ => by
      have : (G.tors [G.one] p).length ≤ [G.one].length := List.length_filter_le _ _
      simpa using this⟩
  | j :: J, hJ => by
    obtain ⟨T, h1, h2, h3, h4, h5⟩ := span_ex hS ht J (fun x hx => hJ x (by simp [hx]))
    have hj := hJ j (by simp)
    obtain ⟨t, t0, t1, t2⟩ := least_ex (P := fun k => G.pw j k ∈ T) (ht j hj).1 (by
      show G.pw j (f j) ∈ T
      rw [(ht j hj).2]; exact h1.one)
    obtain ⟨e1, e2⟩ := G.ext_has h1 t0 t1
    refine ⟨G.ext T j t, G.ext_sub h1 t0 t1 t2, ?_, ?_, ?_, ?_⟩
    · intro x hx
      obtain ⟨a, _, s, hs, rfl⟩ := G.mem_ext.1 hx
      exact hS.mul _ (hS.pw G hj a) _ (h2 s hs)
    · intro x hx
      rcases List.mem_cons.1 hx with rfl | hx
      · exact e1
      · exact e2 _ (h3 x hx)
    · intro U hU hc x hx
      obtain ⟨a, ha0, s, hs, rfl⟩ := G.mem_ext.1 hx
      clear ha0
      have hU1 := h4 U hU (fun x hx j hj => hc x hx j (by simp [hj])) s hs
      clear hx
      induction a with
      | zero => rw [pw, G.one_mul]; exact hU1
      | succ a ih =>
        have := hc _ ih j (by simp)
        rwa [pw, G.comm j, G.assoc, G.comm j, ← G.assoc]
    · intro p hp
      refine Nat.le_trans (G.tors_ext_le h1 t0 t1 t2 hp) ?_
      rw [List.length_cons, Nat.pow_succ, Nat.mul_comm]
      exact Nat.mul_le_mul_right _ (h5 p hp)
/-- x has the order n, also modulo T. -/
def Ind (T : List α) (x : α) (n : Nat) : Prop := 0 < n ∧ G.pw x n = G.one ∧ ∀ k, G.pw x k ∈ T → n ∣ k
variable {G}
theorem Ind.isO {T : List α} (hT : G.Sub T) {x : α} {n : Nat} (h : G.Ind T x n) : G.IsO x n :=
  IsO.mk' G h.1 h.2.1 fun k _ hk => h.2.2 k (by rw [hk]; exact hT.one)
theorem Ind.mul {T : List α} (hT : G.Sub T) {x y : α} {a b : Nat} (hx : G.Ind T x a) (hy : G.Ind T y b) (hc : Nat.Coprime a b) : G.Ind T (G.mul x y) (a * b) := by
  refine ⟨Nat.mul_pos hx.1 hy.1, ?_, fun k hk => ?_⟩
  · rw [G.pw_prod, G.pw_mul, hx.2.1, G.pw_one, Nat.mul_comm, G.pw_mul, hy.2.1, G.pw_one, G.one_mul]
  · refine Nat.Coprime.mul_dvd_of_dvd_of_dvd hc ?_ ?_
    · have h1 := hT.pw G hk b
      rw [← G.pw_mul, G.pw_prod, Nat.mul_comm k b, G.pw_mul y, hy.2.1, G.pw_one, G.mul_one, Nat.mul_comm b k] at h1
      exact hc.dvd_of_dvd_mul_right (hx.2.2 _ h1)
    · have h1 := hT.pw G hk a
      rw [← G.pw_mul, G.pw_prod, Nat.mul_comm k a, G.pw_mul x, hx.2.1, G.pw_one, G.one_mul, Nat.mul_comm a k] at h1
      exact hc.symm.dvd_of_dvd_mul_right (hy.2.2 _ h1)
theorem ind_one {T : List α} : G.Ind T G.one 1 := ⟨by omega, G.pw_one 1, fun k _ => Nat.one_dvd k⟩
variable (G)
open Classical in
/-- At a power of a prime. -/
theorem ind_pow {S T : List α} (hS : G.Sub S) (hT : G.Sub T) {p i e J : Nat} (hp : PrN p) (he : e ≤ i) (hJ : (G.tors T p).length ≤ p ^ J)
    (hr : p ^ J * (G.tors S (p ^ i)).length < (G.tors S (p ^ (i + 1))).length) : ∃ x ∈ S, G.Ind T x (p ^ (e + 1)) := by
  have hp0 : 0 < p := by have := hp.1; omega
  obtain ⟨y, hy, hy1, hy2⟩ : ∃ y ∈ S, G.pw y (p ^ (i + 1)) = G.one ∧ G.pw y (p ^ i) ∉ T := by
    apply Classical.byContradiction
    intro hno
    have hall : ∀ y ∈ G.tors S (p ^ (i + 1)), G.pw y (p ^ i) ∈ T := fun y hy => by
      obtain ⟨h1, h2⟩ := G.mem_tors.1 hy
      apply Classical.byContradiction
      intro h3
      exact hno ⟨y, h1, h2, h3⟩
    have hle := fib_leK (fun y => G.pw y (p ^ i)) (G.tors S (p ^ i)).length (G.tors T p) (G.tors S (p ^ (i + 1))) (fun y hy => G.mem_tors.2 ⟨hall y hy, by
      rw [← G.pw_mul, ← Nat.pow_succ]; exact (G.mem_tors.1 hy).2⟩) (fun b _ => by
      have hnd : ((G.tors S (p ^ (i + 1))).filter fun y => decide (G.pw y (p ^ i) = b)).Nodup := List.Nodup.sublist List.filter_sublist (G.tors_sub hS _).nd
      by_cases h0 : (G.tors S (p ^ (i + 1))).filter (fun y => decide (G.pw y (p ^ i) = b)) = []
      · rw [h0]; simp
      · obtain ⟨y0, hy0⟩ := List.exists_mem_of_ne_nil _ h0
        obtain ⟨k1, k2⟩ := List.mem_filter.1 hy0
        rw [decide_eq_true_eq] at k2
        obtain ⟨k3, k4⟩ := G.mem_tors.1 k1
        refine inj_lenK (fun y => G.mul y (G.inv y0)) hnd (fun y hy => ?_) (fun y _ z _ he => ?_)
        · obtain ⟨m1, m2⟩ := List.mem_filter.1 hy
          rw [decide_eq_true_eq] at m2
          obtain ⟨m3, m4⟩ := G.mem_tors.1 m1
          refine G.mem_tors.2 ⟨hS.mul _ m3 _ (hS.inv _ k3), ?_⟩
          rw [G.pw_prod, G.pw_inv, m2, k2, G.mul_inv]
        · have he' : G.mul y (G.inv y0) = G.mul z (G.inv y0) := he
          rw [G.comm y, G.comm z] at he'
          exact G.cancel he')
    have : (G.tors T p).length * (G.tors S (p ^ i)).length ≤ p ^ J * (G.tors S (p ^ i)).length := Nat.mul_le_mul_right _ hJ
    omega
  refine ⟨G.pw y (p ^ (i - e)), hS.pw G hy _, Nat.pow_pos hp0, ?_, fun k hk => ?_⟩
  · rw [← G.pw_mul, ← Nat.pow_add, show i - e + (e + 1) = i + 1 by omega]; exact hy1
  · have hz1 : G.pw (G.pw y (p ^ (i - e))) (p ^ (e + 1)) ∈ T := by
      rw [← G.pw_mul, ← Nat.pow_add, show i - e + (e + 1) = i + 1 by omega, hy1]; exact hT.one
    have hz2 : G.pw (G.pw y (p ^ (i - e))) (p ^ e) ∉ T := by
      rw [← G.pw_mul, ← Nat.pow_add, show i - e + e = i by omega]; exact hy2
    generalize G.pw y (p ^ (i - e)) = x at *
    obtain ⟨t, t0, t1, t2⟩ := least_ex (P := fun k => G.pw x k ∈ T) (Nat.pow_pos hp0 (n := e + 1)) hz1
    have d1 := G.least_dvd hT t0 t1 t2 hk
    have d2 := G.least_dvd hT t0 t1 t2 hz1
    obtain ⟨j, hj, hj2⟩ := dvd_pow hp.1 hp.2 (e + 1) t d2
    by_cases hje : j = e + 1
    · rw [← hje, ← hj2]; exact d1
    · exfalso
      apply hz2
      obtain ⟨c, hc⟩ : t ∣ p ^ e := by rw [hj2]; exact Nat.pow_dvd_pow p (by omega)
      rw [hc, G.pw_mul]
      exact hT.pw G t1 c
/-- From the powers of primes to every number. -/
theorem ind_all {S T : List α} (hS : G.Sub S) (hT : G.Sub T) (m : Nat) (h : ∀ p e r, PrN p → m = p ^ (e + 1) * r → Nat.Coprime p r → ∃ x ∈ S, G.Ind T x (p ^ (e + 1))) :
    ∀ (n c : Nat), 0 < n → m = n * c → Nat.Coprime n c → ∃ x ∈ S, G.Ind T x n := by
  intro n
  induction n using Nat.strongRecOn with
  | ind n ih =>
    intro c hn hm hc
    by_cases h1 : n = 1
    · subst h1
      exact ⟨G.one, hS.one, ind_one⟩
    · obtain ⟨p, hp, hpn⟩ := prime_ex n (by omega)
      obtain ⟨e, r, hr1, hr2⟩ := part_ex hp n hn
      have hp2 := hp.1
      have he : e ≠ 0 := fun e0 => by
        subst e0
        rw [Nat.pow_zero, Nat.one_mul] at hr1
        rw [hr1] at hpn
        have := Nat.Coprime.eq_one_of_dvd hr2 hpn
        omega
      obtain ⟨e, rfl⟩ : ∃ e', e = e' + 1 := ⟨e - 1, by omega⟩
      have hr0 : 0 < r := Nat.pos_of_ne_zero (fun h0 => by subst h0; rw [Nat.mul_zero] at hr1; omega)
      have hpp : 2 ≤ p ^ (e + 1) := by
        have : p ^ 1 ≤ p ^ (e + 1) := Nat.pow_le_pow_right (by omega) (by omega)
        rw [Nat.pow_one] at this
        omega
      have hpc : Nat.Coprime p c := Nat.Coprime.coprime_dvd_left hpn hc
      obtain ⟨x, hx, hx1⟩ := h p e (r * c) hp (by rw [hm, hr1, Nat.mul_assoc]) (Nat.Coprime.mul_right hr2 hpc)
      have hrn : r < n := by
        rw [hr1]
        have := Nat.mul_le_mul_right r hpp
        omega
      obtain ⟨y, hy, hy1⟩ := ih r hrn (p ^ (e + 1) * c) hr0 (by rw [hm, hr1]; grind) (Nat.Coprime.mul_right (Nat.Coprime.pow_right _ hr2.symm) (Nat.Coprime.coprime_dvd_left ⟨p ^ (e + 1), by rw [hr1, Nat.mul_comm]⟩ hc))
      refine ⟨G.mul x y, hS.mul _ hx _ hy, ?_⟩
      have := hx1.mul hT hy1 (Nat.Coprime.pow_left _ hr2)
      rwa [← hr1] at this
/-- The composite of powers. -/
def comb : List α → List Nat → α
  | x :: J, a :: e => G.mul (G.pw x a) (comb J e)
  | _, _ => G.one
/-- A basis, with the orders. -/
inductive Bas (S : List α) : List α → List Nat → Prop
  | nil : Bas S [] []
  | cons {x : α} {n : Nat} {J : List α} {N : List Nat} {T : List α} : Bas S J N → x ∈ S → G.Sub T → (∀ j ∈ J, j ∈ T) → G.Ind T x n → Bas S (x :: J) (n :: N)
variable {G}
theorem Bas.len {S J : List α} {N : List Nat} (h : G.Bas S J N) : J.length = N.length := by
  induction h with
  | nil => rfl
  | cons _ _ _ _ _ ih => simp [ih]
theorem Bas.mem {S J : List α} {N : List Nat} (h : G.Bas S J N) : ∀ j ∈ J, j ∈ S := by
  induction h with
  | nil => simp
  | cons _ hx _ _ _ ih =>
    intro j hj
    rcases List.mem_cons.1 hj with rfl | hj
    · exact hx
    · exact ih j hj
theorem comb_mem {T : List α} (hT : G.Sub T) : ∀ (J : List α) (e : List Nat), (∀ j ∈ J, j ∈ T) → G.comb J e ∈ T
  | [], e, _ => by unfold comb; exact hT.one
  | x :: J, [], _ => by unfold comb; exact hT.one
  | x :: J, a :: e, h => by
    unfold comb
    exact hT.mul _ (hT.pw G (h x (by simp)) a) _ (comb_mem hT J e fun j hj => h j (by simp [hj]))
/-- Exponents below the orders. -/
inductive Small : List Nat → List Nat → Prop
  | nil : Small [] []
  | cons {a n : Nat} {e N : List Nat} : a < n → Small e N → Small (a :: e) (n :: N)
theorem Small.len {e N : List Nat} (h : Small e N) : e.length = N.length := by
  induction h with
  | nil => rfl
  | cons _ _ ih => simp [ih]
theorem Bas.inj {S J : List α} {N : List Nat} (h : G.Bas S J N) : ∀ e e' : List Nat, Small e N → Small e' N → G.comb J e = G.comb J e' → e = e' := by
  induction h with
  | nil =>
    intro e e' h1 h2 _
    cases h1; cases h2; rfl
  | @cons x n J N T _ hx hT hJ hI ih =>
    intro e e' h1 h2 heq
    cases h1 with
    | @cons a _ e _ ha h1 =>
      cases h2 with
      | @cons b _ e' _ hb h2 =>
        have key : ∀ (a b : Nat) (u v : α), a ≤ b → a < n → b < n → u ∈ T → v ∈ T → G.mul (G.pw x a) u = G.mul (G.pw x b) v → a = b := by
          intro a b u v hab ha hb hu hv he
          have e1 : G.pw x b = G.mul (G.pw x a) (G.pw x (b - a)) := by rw [← G.pw_add]; congr 1; omega
          rw [e1, G.assoc] at he
          have e2 := G.cancel he
          have e3 : G.pw x (b - a) = G.mul u (G.inv v) := by
            rw [e2, G.assoc, G.mul_inv, G.mul_one]
          have := hI.2.2 (b - a) (by rw [e3]; exact hT.mul _ hu _ (hT.inv _ hv))
          rcases Nat.eq_zero_or_pos (b - a) with h0 | h0
          · omega
          · have := Nat.le_of_dvd h0 this
            omega
        have hu := comb_mem hT J e hJ
        have hv := comb_mem hT J e' hJ
        have heq' : G.mul (G.pw x a) (G.comb J e) = G.mul (G.pw x b) (G.comb J e') := heq
        obtain rfl : a = b := by
          rcases Nat.le_total a b with hab | hab
          · exact key a b _ _ hab ha hb hu hv heq'
          · exact (key b a _ _ hab hb ha hv hu heq'.symm).symm
        rw [ih e e' h1 h2 (G.cancel heq')]
/-- All lists of small exponents. -/
def allE : List Nat → List (List Nat)
  | [] => [[]]
  | n :: N => (List.range n).flatMap fun a => (allE N).map (a :: ·)
theorem mem_allE {e : List Nat} : ∀ {N : List Nat}, e ∈ allE N ↔ Small e N := by
  intro N
  induction N generalizing e with
  | nil =>
    simp only [allE, List.mem_singleton]
    constructor
    · rintro rfl; exact .nil
    · intro h; cases h; rfl
  | cons n N ih =>
    simp only [allE, List.mem_flatMap, List.mem_range, List.mem_map]
    constructor
    · rintro ⟨a, ha, e', he', rfl⟩
      exact .cons ha (ih.1 he')
    · intro h
      cases h with
      | cons ha h => exact ⟨_, ha, _, ih.2 h, rfl⟩
theorem allE_nd : ∀ N : List Nat, (allE N).Nodup
  | [] => by simp [allE]
  | n :: N => by
    unfold allE
    refine List.pairwise_flatMap.2 ⟨fun a _ => List.Pairwise.map _ (fun x y hxy he => hxy (by simpa using he)) (allE_nd N), ?_⟩
    refine List.Pairwise.imp ?_ (List.nodup_range (n := n))
    intro a b hab x hx y hy he
    obtain ⟨_, _, rfl⟩ := List.mem_map.1 hx
    obtain ⟨_, _, rfl⟩ := List.mem_map.1 hy
    simp at he
    exact hab he.1
theorem allE_len : ∀ N : List Nat, (allE N).length = N.foldr (· * ·) 1
  | [] => rfl
  | n :: N => by
    unfold allE
    rw [List.foldr_cons, ← allE_len N]
    have : ∀ X : List Nat, (X.flatMap fun a => (allE N).map (a :: ·)).length = X.length * (allE N).length := by
      intro X
      induction X with
      | nil => simp
      | cons x X ih => simp [List.flatMap_cons, ih, Nat.succ_mul]; omega
    rw [this, List.length_range]
/-- Every element has exponents. -/
theorem Bas.all {S J : List α} {N : List Nat} (hS : G.Sub S) (h : G.Bas S J N) (hl : N.foldr (· * ·) 1 = S.length) {x : α} (hx : x ∈ S) : ∃ e, Small e N ∧ G.comb J e = x := by
  apply Classical.byContradiction
  intro hno
  have hm := h.mem
  have := inj_lenK (A := none :: (allE N).map some) (B := S) (fun o => match o with | none => x | some e => G.comb J e) (by
      rw [List.nodup_cons]
      refine ⟨by simp, List.Pairwise.map _ (fun x y hxy he => hxy (by simpa using he)) (allE_nd N)⟩) (by
      intro o ho
      rcases List.mem_cons.1 ho with rfl | ho
      · exact hx
      · obtain ⟨e, _, rfl⟩ := List.mem_map.1 ho
        exact comb_mem hS J e hm) (by
      intro o ho o' ho' he
      rcases List.mem_cons.1 ho with rfl | ho <;> rcases List.mem_cons.1 ho' with rfl | ho'
      · rfl
      · obtain ⟨e, he', rfl⟩ := List.mem_map.1 ho'
        exact absurd ⟨e, mem_allE.1 he', he.symm⟩ hno
      · obtain ⟨e, he', rfl⟩ := List.mem_map.1 ho
        exact absurd ⟨e, mem_allE.1 he', he⟩ hno
      · obtain ⟨e, he1, rfl⟩ := List.mem_map.1 ho
        obtain ⟨e', he2, rfl⟩ := List.mem_map.1 ho'
        rw [h.inj e e' (mem_allE.1 he1) (mem_allE.1 he2) he])
  rw [List.length_cons, List.length_map, allE_len, hl] at this
  omega
end Ab
end Go.Proofs.Ytkkamlhpappebaa
