/- Parts SK SL LH SM SP SR SS laid together by tp.py. -/
import Derived.Test.YtkkamlhpappebaaSY
import Derived.Test.YtkkamlhpappebaaZ1
import Derived.Test.YtkkamlhpappebaaGU
import Derived.Test.YtkkamlhpappebaaZX
import Derived.Test.YtkkamlhpappebaaKT
namespace Go.Proofs.Ytkkamlhpappebaa
section
section
open Classical
theorem len_splitK {α : Type} (p : α → Bool) : ∀ L : List α, L.length = (L.filter p).length + (L.filter fun x => !p x).length
  | [] => rfl
  | x :: L => by
    have := len_splitK p L
    cases h : p x <;> simp [h] <;> omega
theorem fib_leK {α β : Type} (f : α → β) (n : Nat) : ∀ (M : List β) (L : List α), (∀ x ∈ L, f x ∈ M) → (∀ b ∈ M, (L.filter fun x => decide (f x = b)).length ≤ n) → L.length ≤ M.length * n
  | [], L, h, _ => by
    cases L with
    | nil => simp
    | cons x L => exact absurd (h x (by simp)) (by simp)
  | b :: M, L, h, hn => by
    have h1 := len_splitK (fun x => decide (f x = b)) L
    have h2 := fib_leK f n M (L.filter fun x => !decide (f x = b)) (fun x hx => by
      obtain ⟨hx1, hx2⟩ := List.mem_filter.1 hx
      rcases List.mem_cons.1 (h x hx1) with h3 | h3
      · simp [h3] at hx2
      · exact h3) (fun c hc => by
      refine Nat.le_trans ?_ (hn c (by simp [hc]))
      exact (List.Sublist.filter _ List.filter_sublist).length_le)
    have h3 := hn b (by simp)
    rw [List.length_cons, Nat.succ_mul]
    omega
theorem inj_lenK {α β : Type} {A : List α} {B : List β} (g : α → β) (hA : A.Nodup) (hm : ∀ x ∈ A, g x ∈ B) (hi : ∀ x ∈ A, ∀ y ∈ A, g x = g y → x = y) : A.length ≤ B.length := by
  have h1 : (A.map g).Nodup := by
    have : ∀ A : List α, A.Nodup → (∀ x ∈ A, ∀ y ∈ A, g x = g y → x = y) → (A.map g).Nodup := by
      intro A
      induction A with
      | nil => intro _ _; simp
      | cons a A ih =>
        intro hA hi
        obtain ⟨h1, h2⟩ := List.nodup_cons.1 hA
        rw [List.map_cons, List.nodup_cons]
        refine ⟨fun h => ?_, ih h2 fun x hx y hy => hi x (by simp [hx]) y (by simp [hy])⟩
        obtain ⟨y, hy, he⟩ := List.mem_map.1 h
        have := hi y (by simp [hy]) a (by simp) he
        exact h1 (this ▸ hy)
    exact this A hA hi
  have h2 := h1.length_le_of_subset (l₂ := B) (fun y hy => by
    obtain ⟨x, hx, rfl⟩ := List.mem_map.1 hy
    exact hm x hx)
  simpa using h2
end
namespace Ab
variable {α : Type} (G : Ab α)
theorem len_filter_dvd {t p : Nat} (ht : 0 < t) (hp : 0 < p) : ((List.range t).filter fun a => decide (t ∣ a * p)).length ≤ p := by
  have h := inj_lenK (A := (List.range t).filter fun a => decide (t ∣ a * p)) (B := List.range p) (fun a => a * p / t) (List.Nodup.sublist List.filter_sublist List.nodup_range) (fun a ha => by
    obtain ⟨h1, h2⟩ := List.mem_filter.1 ha
    rw [List.mem_range] at h1 ⊢
    rw [Nat.div_lt_iff_lt_mul ht, Nat.mul_comm]
    exact Nat.mul_lt_mul_of_pos_left h1 hp) (fun a ha b hb he => by
    obtain ⟨_, h2⟩ := List.mem_filter.1 ha
    obtain ⟨_, h3⟩ := List.mem_filter.1 hb
    rw [decide_eq_true_eq] at h2 h3
    have e1 := Nat.div_mul_cancel h2
    have e2 := Nat.div_mul_cancel h3
    have he' : a * p / t = b * p / t := he
    rw [he', e2] at e1
    exact Nat.eq_of_mul_eq_mul_right hp e1.symm)
  simpa using h
theorem mul_one_inv {x y : α} (h : G.mul x y = G.one) : x = G.inv y := G.inv_uniq (by rw [G.comm]; exact h)
open Classical in
theorem tors_ext_le {T : List α} (hT : G.Sub T) {x : α} {t : Nat} (ht : 0 < t) (h1 : G.pw x t ∈ T) (hmin : ∀ k, 0 < k → k < t → G.pw x k ∉ T) {p : Nat} (hp : 0 < p) :
    (G.tors (G.ext T x t) p).length ≤ p * (G.tors T p).length := by
  have hE := G.ext_sub hT ht h1 hmin
  have hTE := G.tors_sub hE p
  let f : α → Nat := fun y => if h : ∃ a, a < t ∧ ∃ s ∈ T, y = G.mul (G.pw x a) s then h.choose else 0
  have hf : ∀ y ∈ G.ext T x t, f y < t ∧ ∃ s ∈ T, y = G.mul (G.pw x (f y)) s := fun y hy => by
    have h := G.mem_ext.1 hy
    have e : f y = h.choose := dif_pos h
    rw [e]
    exact h.choose_spec
  have hM : ∀ y ∈ G.tors (G.ext T x t) p, f y ∈ (List.range t).filter fun a => decide (t ∣ a * p) := fun y hy => by
    obtain ⟨hy1, hy2⟩ := G.mem_tors.1 hy
    obtain ⟨q1, s, hs, hq⟩ := hf y hy1
    refine List.mem_filter.2 ⟨List.mem_range.2 q1, ?_⟩
    rw [decide_eq_true_eq]
    refine G.least_dvd hT ht h1 hmin ?_
    generalize f y = a at hq
    rw [hq, G.pw_prod, ← G.pw_mul] at hy2
    rw [G.mul_one_inv hy2]
    exact hT.inv _ (hT.pw G hs p)
  have hfib : ∀ b ∈ (List.range t).filter fun a => decide (t ∣ a * p), ((G.tors (G.ext T x t) p).filter fun y => decide (f y = b)).length ≤ (G.tors T p).length := fun b _ => by
    have hnd : ((G.tors (G.ext T x t) p).filter fun y => decide (f y = b)).Nodup := List.Nodup.sublist List.filter_sublist hTE.nd
    by_cases h0 : (G.tors (G.ext T x t) p).filter (fun y => decide (f y = b)) = []
    · rw [h0]; simp
    · obtain ⟨y0, hy0⟩ := List.exists_mem_of_ne_nil _ h0
      obtain ⟨k1, k2⟩ := List.mem_filter.1 hy0
      rw [decide_eq_true_eq] at k2
      obtain ⟨k3, k4⟩ := G.mem_tors.1 k1
      obtain ⟨_, s0, hs0, e0⟩ := hf y0 k3
      rw [k2] at e0
      refine inj_lenK (fun y => G.mul y (G.inv y0)) hnd (fun y hy => ?_) (fun y _ z _ he => ?_)
      · obtain ⟨m1, m2⟩ := List.mem_filter.1 hy
        rw [decide_eq_true_eq] at m2
        obtain ⟨m3, m4⟩ := G.mem_tors.1 m1
        obtain ⟨_, s, hs, e⟩ := hf y m3
        rw [m2] at e
        refine G.mem_tors.2 ⟨?_, ?_⟩
        · have : G.mul y (G.inv y0) = G.mul s (G.inv s0) := by
            apply G.cancel (x := y0)
            rw [G.left_comm, G.mul_inv, G.mul_one, e0, e, G.assoc, G.left_comm s0, G.mul_inv, G.mul_one]
          rw [this]
          exact hT.mul _ hs _ (hT.inv _ hs0)
        · rw [G.pw_prod, m4, G.pw_inv, k4, G.one_mul]
          exact (G.inv_uniq (G.one_mul _)).symm
      · have he' : G.mul y (G.inv y0) = G.mul z (G.inv y0) := he
        rw [G.comm y, G.comm z] at he'
        exact G.cancel he'
  refine Nat.le_trans (fib_leK f _ _ _ hM (fun b hb => by
    refine Nat.le_trans (Nat.le_of_eq ?_) (hfib b hb)
    congr 1
    exact List.filter_congr fun y _ => by congr)) ?_
  exact Nat.mul_le_mul_right _ (len_filter_dvd ht hp)
/-- What some elements generate, as a list; its p-part is small. -/
theorem span_ex {S : List α} (hS : G.Sub S) {f : α → Nat} (ht : G.Tor S f) : ∀ J : List α, (∀ j ∈ J, j ∈ S) → ∃ T, G.Sub T ∧ (∀ x ∈ T, x ∈ S) ∧ (∀ j ∈ J, j ∈ T) ∧
    (∀ U : α → Prop, U G.one → (∀ x, U x → ∀ j ∈ J, U (G.mul x j)) → ∀ x ∈ T, U x) ∧ ∀ p, 0 < p → (G.tors T p).length ≤ p ^ J.length
  | [], _ => ⟨[G.one], G.sub_one, by simp [hS.one], by simp, fun U h _ x hx => by simp at hx; subst hx; exact h, fun p _ => by
      have : (G.tors [G.one] p).length ≤ [G.one].length := List.length_filter_le _ _
      simpa using this⟩
  | j :: J, hJ => by
    obtain ⟨T, h1, h2, h3, h4, h5⟩ := span_ex hS ht J (fun x hx => hJ x (by simp [hx]))
    have hj := hJ j (by simp)
    obtain ⟨t, t0, t1, t2⟩ := least_ex (P := fun k => G.pw j k ∈ T) (ht j hj).1 (by
      show G.pw j (f j) ∈ T
      rw [(ht j hj).2]; exact h1.one)
    obtain ⟨e1, e2⟩ := G.ext_has h1 t0 t1
    refine ⟨G.ext T j t, G.ext_sub h1 t0 t1 t2, ?_, ?_, ?_, ?_⟩
    · intro x hx
      obtain ⟨a, _, s, hs, rfl⟩ := G.mem_ext.1 hx
      exact hS.mul _ (hS.pw G hj a) _ (h2 s hs)
    · intro x hx
      rcases List.mem_cons.1 hx with rfl | hx
      · exact e1
      · exact e2 _ (h3 x hx)
    · intro U hU hc x hx
      obtain ⟨a, ha0, s, hs, rfl⟩ := G.mem_ext.1 hx
      clear ha0
      have hU1 := h4 U hU (fun x hx j hj => hc x hx j (by simp [hj])) s hs
      clear hx
      induction a with
      | zero => rw [pw, G.one_mul]; exact hU1
      | succ a ih =>
        have := hc _ ih j (by simp)
        rwa [pw, G.comm j, G.assoc, G.comm j, ← G.assoc]
    · intro p hp
      refine Nat.le_trans (G.tors_ext_le h1 t0 t1 t2 hp) ?_
      rw [List.length_cons, Nat.pow_succ, Nat.mul_comm]
      exact Nat.mul_le_mul_right _ (h5 p hp)
/-- x has the order n, also modulo T. -/
def Ind (T : List α) (x : α) (n : Nat) : Prop := 0 < n ∧ G.pw x n = G.one ∧ ∀ k, G.pw x k ∈ T → n ∣ k
variable {G}
theorem Ind.isO {T : List α} (hT : G.Sub T) {x : α} {n : Nat} (h : G.Ind T x n) : G.IsO x n :=
  IsO.mk' G h.1 h.2.1 fun k _ hk => h.2.2 k (by rw [hk]; exact hT.one)
theorem Ind.mul {T : List α} (hT : G.Sub T) {x y : α} {a b : Nat} (hx : G.Ind T x a) (hy : G.Ind T y b) (hc : Nat.Coprime a b) : G.Ind T (G.mul x y) (a * b) := by
  refine ⟨Nat.mul_pos hx.1 hy.1, ?_, fun k hk => ?_⟩
  · rw [G.pw_prod, G.pw_mul, hx.2.1, G.pw_one, Nat.mul_comm, G.pw_mul, hy.2.1, G.pw_one, G.one_mul]
  · refine Nat.Coprime.mul_dvd_of_dvd_of_dvd hc ?_ ?_
    · have h1 := hT.pw G hk b
      rw [← G.pw_mul, G.pw_prod, Nat.mul_comm k b, G.pw_mul y, hy.2.1, G.pw_one, G.mul_one, Nat.mul_comm b k] at h1
      exact hc.dvd_of_dvd_mul_right (hx.2.2 _ h1)
    · have h1 := hT.pw G hk a
      rw [← G.pw_mul, G.pw_prod, Nat.mul_comm k a, G.pw_mul x, hx.2.1, G.pw_one, G.one_mul, Nat.mul_comm a k] at h1
      exact hc.symm.dvd_of_dvd_mul_right (hy.2.2 _ h1)
theorem ind_one {T : List α} : G.Ind T G.one 1 := ⟨by omega, G.pw_one 1, fun k _ => Nat.one_dvd k⟩
variable (G)
open Classical in
/-- At a power of a prime. -/
theorem ind_pow {S T : List α} (hS : G.Sub S) (hT : G.Sub T) {p i e J : Nat} (hp : PrN p) (he : e ≤ i) (hJ : (G.tors T p).length ≤ p ^ J)
    (hr : p ^ J * (G.tors S (p ^ i)).length < (G.tors S (p ^ (i + 1))).length) : ∃ x ∈ S, G.Ind T x (p ^ (e + 1)) := by
  have hp0 : 0 < p := by have := hp.1; omega
  obtain ⟨y, hy, hy1, hy2⟩ : ∃ y ∈ S, G.pw y (p ^ (i + 1)) = G.one ∧ G.pw y (p ^ i) ∉ T := by
    apply Classical.byContradiction
    intro hno
    have hall : ∀ y ∈ G.tors S (p ^ (i + 1)), G.pw y (p ^ i) ∈ T := fun y hy => by
      obtain ⟨h1, h2⟩ := G.mem_tors.1 hy
      apply Classical.byContradiction
      intro h3
      exact hno ⟨y, h1, h2, h3⟩
    have hle := fib_leK (fun y => G.pw y (p ^ i)) (G.tors S (p ^ i)).length (G.tors T p) (G.tors S (p ^ (i + 1))) (fun y hy => G.mem_tors.2 ⟨hall y hy, by
      rw [← G.pw_mul, ← Nat.pow_succ]; exact (G.mem_tors.1 hy).2⟩) (fun b _ => by
      have hnd : ((G.tors S (p ^ (i + 1))).filter fun y => decide (G.pw y (p ^ i) = b)).Nodup := List.Nodup.sublist List.filter_sublist (G.tors_sub hS _).nd
      by_cases h0 : (G.tors S (p ^ (i + 1))).filter (fun y => decide (G.pw y (p ^ i) = b)) = []
      · rw [h0]; simp
      · obtain ⟨y0, hy0⟩ := List.exists_mem_of_ne_nil _ h0
        obtain ⟨k1, k2⟩ := List.mem_filter.1 hy0
        rw [decide_eq_true_eq] at k2
        obtain ⟨k3, k4⟩ := G.mem_tors.1 k1
        refine inj_lenK (fun y => G.mul y (G.inv y0)) hnd (fun y hy => ?_) (fun y _ z _ he => ?_)
        · obtain ⟨m1, m2⟩ := List.mem_filter.1 hy
          rw [decide_eq_true_eq] at m2
          obtain ⟨m3, m4⟩ := G.mem_tors.1 m1
          refine G.mem_tors.2 ⟨hS.mul _ m3 _ (hS.inv _ k3), ?_⟩
          rw [G.pw_prod, G.pw_inv, m2, k2, G.mul_inv]
        · have he' : G.mul y (G.inv y0) = G.mul z (G.inv y0) := he
          rw [G.comm y, G.comm z] at he'
          exact G.cancel he')
    have : (G.tors T p).length * (G.tors S (p ^ i)).length ≤ p ^ J * (G.tors S (p ^ i)).length := Nat.mul_le_mul_right _ hJ
    omega
  refine ⟨G.pw y (p ^ (i - e)), hS.pw G hy _, Nat.pow_pos hp0, ?_, fun k hk => ?_⟩
  · rw [← G.pw_mul, ← Nat.pow_add, show i - e + (e + 1) = i + 1 by omega]; exact hy1
  · have hz1 : G.pw (G.pw y (p ^ (i - e))) (p ^ (e + 1)) ∈ T := by
      rw [← G.pw_mul, ← Nat.pow_add, show i - e + (e + 1) = i + 1 by omega, hy1]; exact hT.one
    have hz2 : G.pw (G.pw y (p ^ (i - e))) (p ^ e) ∉ T := by
      rw [← G.pw_mul, ← Nat.pow_add, show i - e + e = i by omega]; exact hy2
    generalize G.pw y (p ^ (i - e)) = x at *
    obtain ⟨t, t0, t1, t2⟩ := least_ex (P := fun k => G.pw x k ∈ T) (Nat.pow_pos hp0 (n := e + 1)) hz1
    have d1 := G.least_dvd hT t0 t1 t2 hk
    have d2 := G.least_dvd hT t0 t1 t2 hz1
    obtain ⟨j, hj, hj2⟩ := dvd_pow hp.1 hp.2 (e + 1) t d2
    by_cases hje : j = e + 1
    · rw [← hje, ← hj2]; exact d1
    · exfalso
      apply hz2
      obtain ⟨c, hc⟩ : t ∣ p ^ e := by rw [hj2]; exact Nat.pow_dvd_pow p (by omega)
      rw [hc, G.pw_mul]
      exact hT.pw G t1 c
/-- From the powers of primes to every number. -/
theorem ind_all {S T : List α} (hS : G.Sub S) (hT : G.Sub T) (m : Nat) (h : ∀ p e r, PrN p → m = p ^ (e + 1) * r → Nat.Coprime p r → ∃ x ∈ S, G.Ind T x (p ^ (e + 1))) :
    ∀ (n c : Nat), 0 < n → m = n * c → Nat.Coprime n c → ∃ x ∈ S, G.Ind T x n := by
  intro n
  induction n using Nat.strongRecOn with
  | ind n ih =>
    intro c hn hm hc
    by_cases h1 : n = 1
    · subst h1
      exact ⟨G.one, hS.one, ind_one⟩
    · obtain ⟨p, hp, hpn⟩ := prime_ex n (by omega)
      obtain ⟨e, r, hr1, hr2⟩ := part_ex hp n hn
      have hp2 := hp.1
      have he : e ≠ 0 := fun e0 => by
        subst e0
        rw [Nat.pow_zero, Nat.one_mul] at hr1
        rw [hr1] at hpn
        have := Nat.Coprime.eq_one_of_dvd hr2 hpn
        omega
      obtain ⟨e, rfl⟩ : ∃ e', e = e' + 1 := ⟨e - 1, by omega⟩
      have hr0 : 0 < r := Nat.pos_of_ne_zero (fun h0 => by subst h0; rw [Nat.mul_zero] at hr1; omega)
      have hpp : 2 ≤ p ^ (e + 1) := by
        have : p ^ 1 ≤ p ^ (e + 1) := Nat.pow_le_pow_right (by omega) (by omega)
        rw [Nat.pow_one] at this
        omega
      have hpc : Nat.Coprime p c := Nat.Coprime.coprime_dvd_left hpn hc
      obtain ⟨x, hx, hx1⟩ := h p e (r * c) hp (by rw [hm, hr1, Nat.mul_assoc]) (Nat.Coprime.mul_right hr2 hpc)
      have hrn : r < n := by
        rw [hr1]
        have := Nat.mul_le_mul_right r hpp
        omega
      obtain ⟨y, hy, hy1⟩ := ih r hrn (p ^ (e + 1) * c) hr0 (by rw [hm, hr1]; grind) (Nat.Coprime.mul_right (Nat.Coprime.pow_right _ hr2.symm) (Nat.Coprime.coprime_dvd_left ⟨p ^ (e + 1), by rw [hr1, Nat.mul_comm]⟩ hc))
      refine ⟨G.mul x y, hS.mul _ hx _ hy, ?_⟩
      have := hx1.mul hT hy1 (Nat.Coprime.pow_left _ hr2)
      rwa [← hr1] at this
/-- The composite of powers. -/
def comb : List α → List Nat → α
  | x :: J, a :: e => G.mul (G.pw x a) (comb J e)
  | _, _ => G.one
/-- A basis, with the orders. -/
inductive Bas (S : List α) : List α → List Nat → Prop
  | nil : Bas S [] []
  | cons {x : α} {n : Nat} {J : List α} {N : List Nat} {T : List α} : Bas S J N → x ∈ S → G.Sub T → (∀ j ∈ J, j ∈ T) → G.Ind T x n → Bas S (x :: J) (n :: N)
variable {G}
theorem Bas.len {S J : List α} {N : List Nat} (h : G.Bas S J N) : J.length = N.length := by
  induction h with
  | nil => rfl
  | cons _ _ _ _ _ ih => simp [ih]
theorem Bas.mem {S J : List α} {N : List Nat} (h : G.Bas S J N) : ∀ j ∈ J, j ∈ S := by
  induction h with
  | nil => simp
  | cons _ hx _ _ _ ih =>
    intro j hj
    rcases List.mem_cons.1 hj with rfl | hj
    · exact hx
    · exact ih j hj
theorem comb_mem {T : List α} (hT : G.Sub T) : ∀ (J : List α) (e : List Nat), (∀ j ∈ J, j ∈ T) → G.comb J e ∈ T
  | [], e, _ => by unfold comb; exact hT.one
  | x :: J, [], _ => by unfold comb; exact hT.one
  | x :: J, a :: e, h => by
    unfold comb
    exact hT.mul _ (hT.pw G (h x (by simp)) a) _ (comb_mem hT J e fun j hj => h j (by simp [hj]))
/-- Exponents below the orders. -/
inductive Small : List Nat → List Nat → Prop
  | nil : Small [] []
  | cons {a n : Nat} {e N : List Nat} : a < n → Small e N → Small (a :: e) (n :: N)
theorem Small.len {e N : List Nat} (h : Small e N) : e.length = N.length := by
  induction h with
  | nil => rfl
  | cons _ _ ih => simp [ih]
theorem Bas.inj {S J : List α} {N : List Nat} (h : G.Bas S J N) : ∀ e e' : List Nat, Small e N → Small e' N → G.comb J e = G.comb J e' → e = e' := by
  induction h with
  | nil =>
    intro e e' h1 h2 _
    cases h1; cases h2; rfl
  | @cons x n J N T _ hx hT hJ hI ih =>
    intro e e' h1 h2 heq
    cases h1 with
    | @cons a _ e _ ha h1 =>
      cases h2 with
      | @cons b _ e' _ hb h2 =>
        have key : ∀ (a b : Nat) (u v : α), a ≤ b → a < n → b < n → u ∈ T → v ∈ T → G.mul (G.pw x a) u = G.mul (G.pw x b) v → a = b := by
          intro a b u v hab ha hb hu hv he
          have e1 : G.pw x b = G.mul (G.pw x a) (G.pw x (b - a)) := by rw [← G.pw_add]; congr 1; omega
          rw [e1, G.assoc] at he
          have e2 := G.cancel he
          have e3 : G.pw x (b - a) = G.mul u (G.inv v) := by
            rw [e2, G.assoc, G.mul_inv, G.mul_one]
          have := hI.2.2 (b - a) (by rw [e3]; exact hT.mul _ hu _ (hT.inv _ hv))
          rcases Nat.eq_zero_or_pos (b - a) with h0 | h0
          · omega
          · have := Nat.le_of_dvd h0 this
            omega
        have hu := comb_mem hT J e hJ
        have hv := comb_mem hT J e' hJ
        have heq' : G.mul (G.pw x a) (G.comb J e) = G.mul (G.pw x b) (G.comb J e') := heq
        obtain rfl : a = b := by
          rcases Nat.le_total a b with hab | hab
          · exact key a b _ _ hab ha hb hu hv heq'
          · exact (key b a _ _ hab hb ha hv hu heq'.symm).symm
        rw [ih e e' h1 h2 (G.cancel heq')]
/-- All lists of small exponents. -/
def allE : List Nat → List (List Nat)
  | [] => [[]]
  | n :: N => (List.range n).flatMap fun a => (allE N).map (a :: ·)
theorem mem_allE {e : List Nat} : ∀ {N : List Nat}, e ∈ allE N ↔ Small e N := by
  intro N
  induction N generalizing e with
  | nil =>
    simp only [allE, List.mem_singleton]
    constructor
    · rintro rfl; exact .nil
    · intro h; cases h; rfl
  | cons n N ih =>
    simp only [allE, List.mem_flatMap, List.mem_range, List.mem_map]
    constructor
    · rintro ⟨a, ha, e', he', rfl⟩
      exact .cons ha (ih.1 he')
    · intro h
      cases h with
      | cons ha h => exact ⟨_, ha, _, ih.2 h, rfl⟩
theorem allE_nd : ∀ N : List Nat, (allE N).Nodup
  | [] => by simp [allE]
  | n :: N => by
    unfold allE
    refine List.pairwise_flatMap.2 ⟨fun a _ => List.Pairwise.map _ (fun x y hxy he => hxy (by simpa using he)) (allE_nd N), ?_⟩
    refine List.Pairwise.imp ?_ (List.nodup_range (n := n))
    intro a b hab x hx y hy he
    obtain ⟨_, _, rfl⟩ := List.mem_map.1 hx
    obtain ⟨_, _, rfl⟩ := List.mem_map.1 hy
    simp at he
    exact hab he.1
theorem allE_len : ∀ N : List Nat, (allE N).length = N.foldr (· * ·) 1
  | [] => rfl
  | n :: N => by
    unfold allE
    rw [List.foldr_cons, ← allE_len N]
    have : ∀ X : List Nat, (X.flatMap fun a => (allE N).map (a :: ·)).length = X.length * (allE N).length := by
      intro X
      induction X with
      | nil => simp
      | cons x X ih => simp [List.flatMap_cons, ih, Nat.succ_mul]; omega
    rw [this, List.length_range]
/-- Every element has exponents. -/
theorem Bas.all {S J : List α} {N : List Nat} (hS : G.Sub S) (h : G.Bas S J N) (hl : N.foldr (· * ·) 1 = S.length) {x : α} (hx : x ∈ S) : ∃ e, Small e N ∧ G.comb J e = x := by
  apply Classical.byContradiction
  intro hno
  have hm := h.mem
  have := inj_lenK (A := none :: (allE N).map some) (B := S) (fun o => match o with | none => x | some e => G.comb J e) (by
      rw [List.nodup_cons]
      refine ⟨by simp, List.Pairwise.map _ (fun x y hxy he => hxy (by simpa using he)) (allE_nd N)⟩) (by
      intro o ho
      rcases List.mem_cons.1 ho with rfl | ho
      · exact hx
      · obtain ⟨e, _, rfl⟩ := List.mem_map.1 ho
        exact comb_mem hS J e hm) (by
      intro o ho o' ho' he
      rcases List.mem_cons.1 ho with rfl | ho <;> rcases List.mem_cons.1 ho' with rfl | ho'
      · rfl
      · obtain ⟨e, he', rfl⟩ := List.mem_map.1 ho'
        exact absurd ⟨e, mem_allE.1 he', he.symm⟩ hno
      · obtain ⟨e, he', rfl⟩ := List.mem_map.1 ho
        exact absurd ⟨e, mem_allE.1 he', he⟩ hno
      · obtain ⟨e, he1, rfl⟩ := List.mem_map.1 ho
        obtain ⟨e', he2, rfl⟩ := List.mem_map.1 ho'
        rw [h.inj e e' (mem_allE.1 he1) (mem_allE.1 he2) he])
  rw [List.length_cons, List.length_map, allE_len, hl] at this
  omega
end Ab
end

section

theorem bump_get : ∀ (out : List Int) (k : Nat) (q : Int) (j : Nat), (bumpL out k q).getD j 1 = (if j < k then q else 1) * out.getD j 1
  | out, 0, q, j => by rw [bumpL_zero]; simp
  | [], k + 1, q, 0 => by simp [bumpL]
  | [], k + 1, q, j + 1 => by
    have := bump_get [] k q j
    rw [bumpL, List.getD_cons_succ, this]
    simp
  | x :: out, k + 1, q, 0 => by simp [bumpL, Int.mul_comm]
  | x :: out, k + 1, q, j + 1 => by
    have := bump_get out k q j
    rw [bumpL, List.getD_cons_succ, this, List.getD_cons_succ]
    simp
/-- How often a prime stands in the factor j. -/
noncomputable def cR (d : Int) (p j e : Nat) : Nat := ((List.range e).filter fun i => decide (j < rkP d p i)).length
theorem facP_get (d : Int) (p : Nat) (out : List Int) (j : Nat) : ∀ e, (facP d p out e).getD j 1 = ((p ^ cR d p j e : Nat) : Int) * out.getD j 1
  | 0 => by simp [facP, cR]
  | e + 1 => by
    rw [facP, bump_get, facP_get d p out j e]
    unfold cR
    rw [List.range_succ, List.filter_append, List.length_append]
    by_cases h : j < rkP d p e
    · rw [if_pos h]
      simp only [h, decide_true, List.filter_cons_of_pos, List.filter_nil, List.length_singleton]
      rw [Nat.pow_succ, Int.natCast_mul]
      grind
    · rw [if_neg h]
      simp [h]
noncomputable def ppR (d : Int) (j : Nat) : List Int → Nat
  | [] => 1
  | x :: F => x.toNat ^ cR d x.toNat j (exE (clsL d).length x.toNat) * ppR d j F
theorem fold_get (d : Int) (j : Nat) : ∀ (F out : List Int), (F.foldl (facE d) out).getD j 1 = ((ppR d j F : Nat) : Int) * out.getD j 1
  | [], out => by simp [ppR]
  | x :: F, out => by
    rw [List.foldl_cons, fold_get d j F]
    unfold facE
    rw [facP_get, ppR, Int.natCast_mul]
    grind
theorem ppR_cop {d : Int} {j q : Nat} : ∀ F : List Int, (∀ x ∈ F, Nat.Coprime q x.toNat) → Nat.Coprime q (ppR d j F)
  | [], _ => Nat.coprime_one_right _
  | x :: F, h => Nat.Coprime.mul_right (Nat.Coprime.pow_right _ (h x (by simp))) (ppR_cop F fun y hy => h y (by simp [hy]))
theorem ppR_dvd {d : Int} {j p n : Nat} (hp : Ab.PrN p) : ∀ F : List Int, (∀ x ∈ F, Ab.PrN x.toNat) → SAsc F → 1 ≤ n → p ^ n ∣ ppR d j F → p ^ n ∣ p ^ cR d p j (exE (clsL d).length p)
  | [], _, _, hn, h => by
    exfalso
    have h2 : p ∣ 1 := Nat.dvd_trans (by obtain ⟨k, rfl⟩ : ∃ k, n = k + 1 := ⟨n - 1, by omega⟩; exact ⟨p ^ k, by rw [Nat.pow_succ, Nat.mul_comm]⟩) h
    have := Nat.dvd_one.1 h2
    have := hp.1
    omega
  | x :: F, hF, hs, hn, h => by
    have hx := hF x (by simp)
    by_cases e : x.toNat = p
    · have hc : Nat.Coprime p (ppR d j F) := ppR_cop F fun y hy => by
        have h3 := hs.1 y hy
        have h4 := hF y (by simp [hy])
        exact pr_cop hp h4 (by have := h4.1; omega)
      rw [ppR, e] at h
      exact (Nat.Coprime.pow_left n hc).dvd_of_dvd_mul_right h
    · have hc : Nat.Coprime p x.toNat := by
        rcases Nat.lt_or_gt_of_ne e with h1 | h1
        · exact (pr_cop hx hp h1).symm
        · exact pr_cop hp hx h1
      rw [ppR] at h
      exact ppR_dvd hp F (fun y hy => hF y (by simp [hy])) hs.2 hn ((Nat.Coprime.pow_left n (Nat.Coprime.pow_right _ hc)).dvd_of_dvd_mul_left h)
/-- A prime's power in the factor j: some count of its powers is above j. -/
theorem inv_pow {d : Int} (D : Dsc d) {p e j n : Nat} (hp : Ab.PrN p) (hn : (invL d).getD j 1 = (n : Int)) (h : p ^ (e + 1) ∣ n) : ∃ i, e ≤ i ∧ j < rkP d p i := by
  have hm0 : 0 < (clsL d).length := List.length_pos_of_mem D.one
  have hm1 := clsL_len d
  have hpr : ∀ x ∈ prims (clsL d).length, Ab.PrN x.toNat := fun x hx => prI_nat ((mem_prims (by omega) (by omega)).1 hx).1
  have h1 := fold_get d j (prims (clsL d).length) []
  have h2 : (invL d).getD j 1 = ((ppR d j (prims (clsL d).length) : Nat) : Int) := by
    unfold invL; rw [h1]; simp
  rw [h2] at hn
  have h3 : ppR d j (prims (clsL d).length) = n := by omega
  rw [← h3] at h
  have h4 := ppR_dvd hp _ hpr (prims_sasc (by omega)) (by omega) h
  have h5 := (Nat.pow_dvd_pow_iff_le_right (by have := hp.1; omega)).1 h4
  apply Classical.byContradiction
  intro hno
  have h6 : cR d p j (exE (clsL d).length p) ≤ e := by
    unfold cR
    have hs : ∀ x ∈ (List.range (exE (clsL d).length p)).filter (fun i => decide (j < rkP d p i)), x ∈ List.range e := fun x hx => by
      obtain ⟨_, hx2⟩ := List.mem_filter.1 hx
      rw [decide_eq_true_eq] at hx2
      rw [List.mem_range]
      apply Nat.not_le.1
      intro hle
      exact hno ⟨x, hle, hx2⟩
    have := (List.Nodup.sublist List.filter_sublist List.nodup_range : ((List.range (exE (clsL d).length p)).filter (fun i => decide (j < rkP d p i))).Nodup).length_le_of_subset hs
    simpa using this
  omega
/-- At each step there is an element whose order is the factor, also modulo what stands already. -/
theorem bas_step {d : Int} (D : Dsc d) {T : List {f : Fm // f ∈ clsL d}} (hT : (clG D).Sub T) {j n : Nat} (hJ : ∀ p, 0 < p → ((clG D).tors T p).length ≤ p ^ j) (hn : (invL d).getD j 1 = (n : Int)) (hn0 : 0 < n) : ∃ x ∈ (clsL d).attach, (clG D).Ind T x n := by
  refine Ab.ind_all (clG D) (clG_all D) hT n (fun p e r hp he hr => ?_) n 1 hn0 (by omega) (Nat.coprime_one_right _)
  obtain ⟨i, hi, hj⟩ := inv_pow D (e := e) hp hn ⟨r, he⟩
  have hp2 := hp.1
  refine Ab.ind_pow (clG D) (clG_all D) hT hp hi (hJ p (by omega)) ?_
  rw [← cnt_tors D, ← cnt_tors D, cnt_succ D hp i, Nat.mul_comm]
  exact Nat.mul_lt_mul_of_pos_left (Nat.pow_lt_pow_right (by omega) hj) (cnt_pos D _)
theorem ind_iff {α : Type} {G : Ab α} {T : List α} (hT : G.Sub T) {x : α} {n : Nat} : G.Ind T x n ↔ G.IsO x n ∧ ∀ k, G.pw x k ∈ T → G.pw x k = G.one := by
  constructor
  · intro h
    have ho := h.isO hT
    exact ⟨ho, fun k hk => ho.of_dvd G (h.2.2 k hk)⟩
  · rintro ⟨ho, h⟩
    exact ⟨ho.1, ho.2.1, fun k hk => ho.dvd G (h k hk)⟩
end

section
open Go.RowKit
section
/-- Is x a product of i and an element of S? -/
def cosB (mul : Nat → Nat → Nat) (S : List Nat) (i x : Nat) : Bool := S.any fun j => mul i j == x
def cosN (mul : Nat → Nat → Nat) (S : List Nat) (m i : Nat) : List Nat := (List.range m).filter (cosB mul S i)
/-- The cosets of the first k indices. -/
def cosS (mul : Nat → Nat → Nat) (S : List Nat) (m : Nat) : Nat → List (List Nat)
  | 0 => []
  | k + 1 => if (cosS mul S m k).any (fun c => c.contains k) then cosS mul S m k else cosS mul S m k ++ [cosN mul S m k]
def seenB (mul : Nat → Nat → Nat) (S : List Nat) (m k x : Nat) : Bool := (cosS mul S m k).any fun c => c.contains x
variable {mul : Nat → Nat → Nat} {S : List Nat} {m : Nat}
theorem seen_zero (x : Nat) : seenB mul S m 0 x = false := rfl
theorem cosS_yes {k : Nat} (h : seenB mul S m k k = true) : cosS mul S m (k + 1) = cosS mul S m k := by
  unfold seenB at h
  rw [cosS, if_pos h]
theorem cosS_no {k : Nat} (h : seenB mul S m k k = false) : cosS mul S m (k + 1) = cosS mul S m k ++ [cosN mul S m k] := by
  unfold seenB at h
  rw [cosS, if_neg (by rw [h]; simp)]
theorem seen_yes {k : Nat} (h : seenB mul S m k k = true) (x : Nat) : seenB mul S m (k + 1) x = seenB mul S m k x := by
  unfold seenB
  rw [cosS_yes h]
theorem seen_no {k : Nat} (h : seenB mul S m k k = false) (x : Nat) : seenB mul S m (k + 1) x = (seenB mul S m k x || (decide (x < m) && cosB mul S k x)) := by
  have e : (cosN mul S m k).contains x = (decide (x < m) && cosB mul S k x) := by
    rw [Bool.eq_iff_iff]
    simp [cosN]
  conv => lhs; unfold seenB
  rw [cosS_no h, List.any_append]
  simp only [List.any_cons, List.any_nil, Bool.or_false, e]
  rfl
end
section
open Classical
/-- A multiplication on the numbers below m makes a group. -/
structure NG (mul : Nat → Nat → Nat) (m : Nat) : Prop where
  pos : 0 < m
  lt : ∀ i j, i < m → j < m → mul i j < m
  comm : ∀ i j, i < m → j < m → mul i j = mul j i
  assoc : ∀ i j k, i < m → j < m → k < m → mul (mul i j) k = mul i (mul j k)
  one : ∀ i, i < m → mul 0 i = i
  cancel : ∀ i j k, i < m → j < m → k < m → mul i j = mul i k → j = k
theorem full_of {α : Type} {A B : List α} (hA : A.Nodup) (hs : ∀ x ∈ A, x ∈ B) (hl : B.length ≤ A.length) : ∀ y ∈ B, y ∈ A := by
  intro y hy
  apply Classical.byContradiction
  intro hn
  have := (List.nodup_cons.2 ⟨hn, hA⟩).length_le_of_subset (l₂ := B) (fun x hx => by
    rcases List.mem_cons.1 hx with rfl | hx
    · exact hy
    · exact hs x hx)
  simp at this
  omega
section
variable {mul : Nat → Nat → Nat} {J : List Nat} {m : Nat}
theorem mem_span {i : Nat} : i ∈ spanL mul J m ↔ i < m ∧ Rch mul J i := by
  unfold spanL
  rw [List.mem_filter, List.mem_range, rchB_iff]
theorem span_nd : (spanL mul J m).Nodup := List.Nodup.sublist List.filter_sublist List.nodup_range
theorem rch_mul (h : NG mul m) (hJ : ∀ j ∈ J, j < m) {i k : Nat} (hi : Rch mul J i) (hk : Rch mul J k) : Rch mul J (mul i k) := by
  have him := hi.lt h.pos h.lt hJ
  induction hk with
  | zero => rw [h.comm _ _ him h.pos, h.one _ him]; exact hi
  | step hk hj ih =>
    rw [← h.assoc _ _ _ him (hk.lt h.pos h.lt hJ) (hJ _ hj)]
    exact .step ih hj
theorem map_nd (h : NG mul m) {i : Nat} (hi : i < m) : ((spanL mul J m).map (mul i)).Nodup := by
  unfold List.Nodup
  rw [List.pairwise_map]
  refine List.Pairwise.imp_of_mem (fun ha hb hab he => hab ?_) span_nd
  exact h.cancel i _ _ hi (mem_span.1 ha).1 (mem_span.1 hb).1 he
theorem span_inv (h : NG mul m) (hJ : ∀ j ∈ J, j < m) {i : Nat} (hi : i ∈ spanL mul J m) : ∃ k ∈ spanL mul J m, mul i k = 0 := by
  obtain ⟨h1, h2⟩ := mem_span.1 hi
  have := full_of (map_nd (J := J) h h1) (B := spanL mul J m) (fun x hx => by
    obtain ⟨k, hk, rfl⟩ := List.mem_map.1 hx
    obtain ⟨k1, k2⟩ := mem_span.1 hk
    exact mem_span.2 ⟨h.lt _ _ h1 k1, rch_mul h hJ h2 k2⟩) (by simp) 0 (mem_span.2 ⟨h.pos, .zero⟩)
  obtain ⟨k, hk, e⟩ := List.mem_map.1 this
  exact ⟨k, hk, e⟩
theorem mem_cos {S : List Nat} {i x : Nat} : x ∈ cosN mul S m i ↔ x < m ∧ ∃ j ∈ S, mul i j = x := by
  unfold cosN cosB
  rw [List.mem_filter, List.mem_range, List.any_eq_true]
  simp
theorem cos_nd {S : List Nat} {i : Nat} : (cosN mul S m i).Nodup := List.Nodup.sublist List.filter_sublist List.nodup_range
theorem cos_len (h : NG mul m) {i : Nat} (hi : i < m) : (cosN mul (spanL mul J m) m i).length = (spanL mul J m).length := by
  apply Nat.le_antisymm
  · have := (cos_nd (mul := mul) (S := spanL mul J m) (m := m) (i := i)).length_le_of_subset (l₂ := (spanL mul J m).map (mul i)) (fun x hx => by
      obtain ⟨_, j, hj, e⟩ := mem_cos.1 hx
      exact List.mem_map.2 ⟨j, hj, e⟩)
    simpa using this
  · have := (map_nd (J := J) h hi).length_le_of_subset (l₂ := cosN mul (spanL mul J m) m i) (fun x hx => by
      obtain ⟨j, hj, e⟩ := List.mem_map.1 hx
      exact mem_cos.2 ⟨e ▸ h.lt _ _ hi (mem_span.1 hj).1, j, hj, e⟩)
    simpa using this
/-- What the cosets of the first k numbers are. -/
theorem cosS_ok (h : NG mul m) (hJ : ∀ j ∈ J, j < m) : ∀ k, k ≤ m → (∀ c ∈ cosS mul (spanL mul J m) m k, ∃ i, i < k ∧ c = cosN mul (spanL mul J m) m i) ∧ (cosS mul (spanL mul J m) m k).flatten.Nodup ∧ ∀ x, x < k → x ∈ (cosS mul (spanL mul J m) m k).flatten
  | 0, _ => ⟨by simp [cosS], by simp [cosS], fun x hx => by omega⟩
  | k + 1, hk => by
    obtain ⟨a, b, c⟩ := cosS_ok h hJ k (by omega)
    have hown : k ∈ cosN mul (spanL mul J m) m k := mem_cos.2 ⟨by omega, 0, mem_span.2 ⟨h.pos, .zero⟩, by rw [h.comm _ _ (by omega) h.pos, h.one _ (by omega)]⟩
    cases hs : seenB mul (spanL mul J m) m k k with
    | true =>
      rw [cosS_yes hs]
      refine ⟨fun g hg => ?_, b, fun x hx => ?_⟩
      · obtain ⟨i, hi, e⟩ := a g hg
        exact ⟨i, by omega, e⟩
      · rcases Nat.lt_or_eq_of_le (Nat.le_of_lt_succ hx) with hx | rfl
        · exact c x hx
        · unfold seenB at hs
          obtain ⟨g, hg, hc⟩ := List.any_eq_true.1 hs
          exact List.mem_flatten.2 ⟨g, hg, by simpa using hc⟩
    | false =>
      rw [cosS_no hs]
      refine ⟨fun g hg => ?_, ?_, fun x hx => ?_⟩
      · rcases List.mem_append.1 hg with hg | hg
        · obtain ⟨i, hi, e⟩ := a g hg
          exact ⟨i, by omega, e⟩
        · simp at hg
          exact ⟨k, by omega, hg⟩
      · rw [List.flatten_append, List.nodup_append]
        refine ⟨b, by simpa using cos_nd, fun x hx y hy e => ?_⟩
        subst e
        simp at hy
        obtain ⟨g, hg, hxg⟩ := List.mem_flatten.1 hx
        obtain ⟨i, hi, rfl⟩ := a g hg
        obtain ⟨_, j, hj, e1⟩ := mem_cos.1 hy
        obtain ⟨_, j', hj', e2⟩ := mem_cos.1 hxg
        obtain ⟨q, hq, e3⟩ := span_inv h hJ hj
        obtain ⟨j1, j2⟩ := mem_span.1 hj
        obtain ⟨p1, p2⟩ := mem_span.1 hj'
        obtain ⟨q1, q2⟩ := mem_span.1 hq
        have hki : k ∈ cosN mul (spanL mul J m) m i := by
          refine mem_cos.2 ⟨by omega, mul j' q, mem_span.2 ⟨h.lt _ _ p1 q1, rch_mul h hJ p2 q2⟩, ?_⟩
          rw [← h.assoc _ _ _ (by omega) p1 q1, e2, ← e1, h.assoc _ _ _ (by omega) j1 q1, e3, h.comm _ _ (by omega) h.pos, h.one _ (by omega)]
        have : seenB mul (spanL mul J m) m k k = true := by
          unfold seenB
          exact List.any_eq_true.2 ⟨_, hg, by simpa using hki⟩
        rw [hs] at this
        cases this
      · rw [List.flatten_append]
        rcases Nat.lt_or_eq_of_le (Nat.le_of_lt_succ hx) with hx | rfl
        · exact List.mem_append_left _ (c x hx)
        · exact List.mem_append_right _ (by simpa using hown)
end
theorem flat_len {α : Type} {s : Nat} : ∀ (G : List (List α)), (∀ c ∈ G, c.length = s) → G.flatten.length = s * G.length
  | [], _ => by simp
  | c :: G, h => by
    rw [List.flatten_cons, List.length_append, flat_len G (fun c hc => h c (by simp [hc])), h c (by simp), List.length_cons, Nat.mul_succ, Nat.add_comm]
variable {d : Int}
theorem at_mul (D : Dsc d) {i k : Nat} (hi : i < (clsL d).length) (hk : k < (clsL d).length) : ∃ h : mulN d (clsL d) i k < (clsL d).length, (clsL d)[mulN d (clsL d) i k] = cmp d (clsL d)[i] (clsL d)[k] := by
  obtain ⟨h1, h2⟩ := mulN_eq D rfl hi hk
  exact gix_elem (D.cmpm (List.getElem_mem hi) (List.getElem_mem hk)) h1
theorem at_inj {i k : Nat} (hi : i < (clsL d).length) (hk : k < (clsL d).length) (h : (clsL d)[i] = (clsL d)[k]) : i = k := by
  have h1 := gix_get (clsL_nodup d) hi
  have h2 := gix_get (clsL_nodup d) hk
  rw [h] at h1
  omega
theorem at_zero (D : Dsc d) : ∃ h : 0 < (clsL d).length, (clsL d)[0] = oneF d := by
  obtain ⟨L', h⟩ := cls_head D
  refine ⟨by rw [h]; simp, ?_⟩
  simp only [h]
  rfl
theorem ng_cls (D : Dsc d) : NG (mulN d (clsL d)) (clsL d).length := by
  obtain ⟨h0, h1⟩ := at_zero D
  have hm : ∀ i (h : i < (clsL d).length), (clsL d)[i] ∈ clsL d := fun i h => List.getElem_mem h
  refine ⟨h0, fun i j hi hj => (at_mul D hi hj).1, fun i j hi hj => ?_, fun i j k hi hj hk => ?_, fun i hi => ?_, fun i j k hi hj hk e => ?_⟩
  · obtain ⟨a1, a2⟩ := at_mul D hi hj
    obtain ⟨b1, b2⟩ := at_mul D hj hi
    exact at_inj a1 b1 (by rw [a2, b2, D.comm (hm _ hi) (hm _ hj)])
  · obtain ⟨a1, a2⟩ := at_mul D hi hj
    obtain ⟨b1, b2⟩ := at_mul D a1 hk
    obtain ⟨c1, c2⟩ := at_mul D hj hk
    obtain ⟨d1, d2⟩ := at_mul D hi c1
    exact at_inj b1 d1 (by rw [b2, a2, d2, c2, D.assoc (hm _ hi) (hm _ hj) (hm _ hk)])
  · obtain ⟨a1, a2⟩ := at_mul D h0 hi
    exact at_inj a1 hi (by rw [a2, h1, D.one_mul (hm _ hi)])
  · obtain ⟨a1, a2⟩ := at_mul D hi hj
    obtain ⟨b1, b2⟩ := at_mul D hi hk
    have e2 : cmp d (clsL d)[i] (clsL d)[j] = cmp d (clsL d)[i] (clsL d)[k] := by
      rw [← a2, ← b2]
      simp only [e]
    exact at_inj hj hk (cmp_cl2 D (hm _ hi) (hm _ hj) (hm _ hk) e2)
end
end

section

/-- May the element i be chosen beside J? -/
noncomputable def okB (d : Int) (J : List Nat) (n : Int) (i : Nat) : Bool := decide ((ordF d ((clsL d).getD i ⟨0, 0, 0⟩) : Int) = n) && (List.range (clsL d).length).all fun x => !(rchB (mulN d (clsL d)) [i] x && rchB (mulN d (clsL d)) J x) || x == 0
section
variable {d : Int}
/-- The class at an index, as an element of the group. -/
noncomputable def elN (D : Dsc d) (i : Nat) : {f : Fm // f ∈ clsL d} := if h : i < (clsL d).length then ⟨(clsL d)[i], List.getElem_mem h⟩ else ⟨oneF d, D.one⟩
theorem elN_val (D : Dsc d) {i : Nat} (h : i < (clsL d).length) : (elN D i).1 = (clsL d)[i] := by unfold elN; rw [dif_pos h]
theorem elN_mul (D : Dsc d) {i k : Nat} (hi : i < (clsL d).length) (hk : k < (clsL d).length) : elN D (mulN d (clsL d) i k) = (clG D).mul (elN D i) (elN D k) := by
  obtain ⟨h1, h2⟩ := at_mul D hi hk
  apply Subtype.ext
  rw [elN_val D h1, h2]
  show _ = cmp d (elN D i).1 (elN D k).1
  rw [elN_val D hi, elN_val D hk]
theorem elN_zero (D : Dsc d) : elN D 0 = (clG D).one := by
  obtain ⟨h0, h1⟩ := at_zero D
  apply Subtype.ext
  rw [elN_val D h0, h1]; rfl
theorem elN_inj (D : Dsc d) {i k : Nat} (hi : i < (clsL d).length) (hk : k < (clsL d).length) (h : elN D i = elN D k) : i = k := by
  have := congrArg Subtype.val h
  rw [elN_val D hi, elN_val D hk] at this
  exact at_inj hi hk this
theorem elN_ex (D : Dsc d) (x : {f : Fm // f ∈ clsL d}) : ∃ i, ∃ _ : i < (clsL d).length, elN D i = x := by
  obtain ⟨i, hi, e⟩ := List.getElem_of_mem x.2
  exact ⟨i, hi, Subtype.ext ((elN_val D hi).trans e)⟩
/-- What is reached from J lies in every subgroup that has J. -/
theorem rch_sub (D : Dsc d) {T : List {f : Fm // f ∈ clsL d}} (hT : (clG D).Sub T) {J : List Nat} (hJ : ∀ j ∈ J, j < (clsL d).length) (hJT : ∀ j ∈ J, elN D j ∈ T) {y : Nat} (h : Rch (mulN d (clsL d)) J y) : elN D y ∈ T := by
  have ng := ng_cls D
  induction h with
  | zero => rw [elN_zero]; exact hT.one
  | step hk hj ih =>
    rw [elN_mul D (hk.lt ng.pos ng.lt hJ) (hJ _ hj)]
    exact hT.mul _ ih _ (hJT _ hj)
theorem rch_pw (D : Dsc d) {i : Nat} (hi : i < (clsL d).length) {y : Nat} (h : Rch (mulN d (clsL d)) [i] y) : ∃ k, elN D y = (clG D).pw (elN D i) k := by
  have ng := ng_cls D
  induction h with
  | zero => exact ⟨0, by rw [elN_zero]; rfl⟩
  | step hk hj ih =>
    obtain ⟨k, e⟩ := ih
    simp only [List.mem_singleton] at hj
    subst hj
    refine ⟨k + 1, ?_⟩
    rw [elN_mul D (hk.lt ng.pos ng.lt (fun x hx => by simp only [List.mem_singleton] at hx; subst hx; exact hi)) hi, e, Ab.pw, (clG D).comm]
theorem ok_of (D : Dsc d) {T : List {f : Fm // f ∈ clsL d}} (hT : (clG D).Sub T) {J : List Nat} (hJ : ∀ j ∈ J, j < (clsL d).length) (hJT : ∀ j ∈ J, elN D j ∈ T) {i n : Nat} (hi : i < (clsL d).length) (h : (clG D).Ind T (elN D i) n) : okB d J (n : Int) i = true := by
  obtain ⟨h1, h2⟩ := (ind_iff hT).1 h
  have ng := ng_cls D
  have h0 := clG_ord D (elN D i)
  have e1 : ordF d (elN D i).1 = n := Nat.dvd_antisymm (h0.dvd _ h1.2.1) (h1.dvd _ h0.2.1)
  unfold okB
  rw [Bool.and_eq_true, decide_eq_true_eq, List.all_eq_true]
  refine ⟨?_, fun x hx => ?_⟩
  · rw [← e1, elN_val D hi, List.getD_eq_getElem?_getD, List.getElem?_eq_getElem hi]; rfl
  · have hxm := List.mem_range.1 hx
    by_cases hr : rchB (mulN d (clsL d)) [i] x = true ∧ rchB (mulN d (clsL d)) J x = true
    · obtain ⟨k, hk⟩ := rch_pw D hi (rchB_iff.1 hr.1)
      have hT2 := rch_sub D hT hJ hJT (rchB_iff.1 hr.2)
      rw [hk] at hT2
      have := h2 k hT2
      rw [← hk, ← elN_zero D] at this
      have := elN_inj D hxm ng.pos this
      simp [this]
    · cases ha : rchB (mulN d (clsL d)) [i] x <;> cases hb : rchB (mulN d (clsL d)) J x <;> simp_all
/-- At each step there is an index to choose. -/
theorem ok_ex (D : Dsc d) {J : List Nat} (hJ : ∀ j ∈ J, j < (clsL d).length) {n : Nat} (hn : (invL d).getD J.length 1 = (n : Int)) (hn0 : 0 < n) : ∃ i, i < (clsL d).length ∧ okB d J (n : Int) i = true := by
  obtain ⟨T, t1, t2, t3, t4, t5⟩ := (clG D).span_ex (clG_all D) (clG_tor D) (J.map (elN D)) (fun j _ => List.mem_attach _ _)
  rw [List.length_map] at t5
  obtain ⟨x, hx, hind⟩ := bas_step D t1 t5 hn hn0
  obtain ⟨i, hi, rfl⟩ := elN_ex D x
  exact ⟨i, hi, ok_of D t1 hJ (fun j hj => t3 _ (List.mem_map.2 ⟨j, hj, rfl⟩)) hi hind⟩
theorem inv_nat (D : Dsc d) (j : Nat) : ∃ n : Nat, 0 < n ∧ (invL d).getD j 1 = (n : Int) := by
  have hm0 : 0 < (clsL d).length := List.length_pos_of_mem D.one
  have hm1 := clsL_len d
  have hpr : ∀ x ∈ prims (clsL d).length, Ab.PrN x.toNat := fun x hx => prI_nat ((mem_prims (by omega) (by omega)).1 hx).1
  have h1 := fold_get d j (prims (clsL d).length) []
  refine ⟨ppR d j (prims (clsL d).length), ?_, by unfold invL; rw [h1]; simp⟩
  generalize prims (clsL d).length = F at *
  clear h1
  induction F with
  | nil => simp [ppR]
  | cons x F ih =>
    rw [ppR]
    have := (hpr x (by simp)).1
    exact Nat.mul_pos (Nat.pow_pos (by omega)) (ih fun y hy => hpr y (by simp [hy]))
/-- The basis of the t greatest factors. -/
noncomputable def bsN (d : Int) : Nat → List Nat
  | 0 => []
  | t + 1 => ((List.range (clsL d).length).find? (okB d (bsN d t) ((invL d).getD t 1))).getD 0 :: bsN d t
theorem bsN_len (d : Int) : ∀ t, (bsN d t).length = t
  | 0 => rfl
  | t + 1 => by rw [bsN, List.length_cons, bsN_len d t]
theorem bsN_step (D : Dsc d) : ∀ t, (∀ j ∈ bsN d t, j < (clsL d).length) ∧ ∃ i, i < (clsL d).length ∧ okB d (bsN d t) ((invL d).getD t 1) i = true ∧ (∀ k, k < i → okB d (bsN d t) ((invL d).getD t 1) k = false) ∧ bsN d (t + 1) = i :: bsN d t := by
  have step : ∀ t, (∀ j ∈ bsN d t, j < (clsL d).length) → ∃ i, i < (clsL d).length ∧ okB d (bsN d t) ((invL d).getD t 1) i = true ∧ (∀ k, k < i → okB d (bsN d t) ((invL d).getD t 1) k = false) ∧ bsN d (t + 1) = i :: bsN d t := by
    intro t ht
    obtain ⟨n, hn0, hn⟩ := inv_nat D t
    obtain ⟨i0, hi0, hok⟩ := ok_ex D ht (n := n) (by rw [bsN_len]; exact hn) hn0
    rw [← hn] at hok
    cases hf : (List.range (clsL d).length).find? (okB d (bsN d t) ((invL d).getD t 1)) with
    | none =>
      have := List.find?_eq_none.1 hf i0 (List.mem_range.2 hi0)
      exact absurd hok this
    | some i =>
      obtain ⟨h1, h2, h3⟩ := List.find?_range_eq_some.1 hf
      refine ⟨i, List.mem_range.1 h2, h1, fun k hk => by simpa using h3 k hk, ?_⟩
      rw [bsN, hf]; rfl
  intro t
  induction t with
  | zero => exact ⟨by simp [bsN], step 0 (by simp [bsN])⟩
  | succ t ih =>
    obtain ⟨i, hi, _, _, e⟩ := ih.2
    have hm : ∀ j ∈ bsN d (t + 1), j < (clsL d).length := by
      rw [e]
      intro j hj
      rcases List.mem_cons.1 hj with rfl | hj
      · exact hi
      · exact ih.1 j hj
    exact ⟨hm, step (t + 1) hm⟩
end
end

section

section
variable {d : Int}
theorem rch_one (D : Dsc d) {i : Nat} (hi : i < (clsL d).length) : ∀ (k x : Nat), x < (clsL d).length → elN D x = (clG D).pw (elN D i) k → Rch (mulN d (clsL d)) [i] x
  | 0, x, hx, h => by
    have : x = 0 := elN_inj D hx (ng_cls D).pos (by rw [h, elN_zero]; rfl)
    subst this; exact .zero
  | k + 1, x, hx, h => by
    obtain ⟨y, hy, e⟩ := elN_ex D ((clG D).pw (elN D i) k)
    have h1 := rch_one D hi k y hy e
    have : x = mulN d (clsL d) y i := elN_inj D hx ((ng_cls D).lt _ _ hy hi) (by rw [h, elN_mul D hy hi, e, Ab.pw, (clG D).comm])
    rw [this]
    exact .step h1 (by simp)
theorem ok_meets (D : Dsc d) {J : List Nat} {n : Int} {i : Nat} (hi : i < (clsL d).length) :
    okB d J n i = (decide ((ordF d (clsL d)[i] : Int) = n) && (pwI d (clsL d) (clsL d)[i] (ordF d (clsL d)[i])).tail.all fun x => !rchB (mulN d (clsL d)) J x.toNat) := by
  have hf : (clsL d)[i] ∈ clsL d := List.getElem_mem hi
  have hg : (clsL d).getD i ⟨0, 0, 0⟩ = (clsL d)[i] := by rw [List.getD_eq_getElem?_getD, List.getElem?_eq_getElem hi]; rfl
  have hO := clG_ord D (elN D i)
  rw [elN_val D hi] at hO
  unfold okB
  rw [hg]
  congr 1
  rw [Bool.eq_iff_iff, List.all_eq_true, List.all_eq_true]
  have hix : ∀ k, ∃ y, ∃ h : y < (clsL d).length, (gix (clsL d) (pw d (clsL d)[i] k)).toNat = y ∧ elN D y = (clG D).pw (elN D i) k := fun k => by
    have hb := gix_bd (D.pwm hf k)
    obtain ⟨h1, h2⟩ := gix_elem (D.pwm hf k) (n := (gix (clsL d) (pw d (clsL d)[i] k)).toNat) (by omega)
    refine ⟨_, h1, rfl, Subtype.ext ?_⟩
    rw [elN_val D h1, h2, clG_pw, elN_val D hi]
  constructor
  · intro h x hx
    obtain ⟨j, hj, rfl⟩ := List.getElem_of_mem hx
    rw [List.length_tail, pwI_len] at hj
    have e : (pwI d (clsL d) (clsL d)[i] (ordF d (clsL d)[i])).tail[j]'(by rw [List.length_tail, pwI_len]; exact hj) = gix (clsL d) (pw d (clsL d)[i] (j + 1)) := by
      rw [List.getElem_tail]; unfold pwI; simp
    rw [e]
    obtain ⟨y, hy, e1, e2⟩ := hix (j + 1)
    rw [e1]
    have h2 := h y (List.mem_range.2 hy)
    have h3 : rchB (mulN d (clsL d)) [i] y = true := rchB_iff.2 (rch_one D hi (j + 1) y hy e2)
    rw [h3, Bool.true_and] at h2
    cases hr : rchB (mulN d (clsL d)) J y with
    | false => rfl
    | true =>
      rw [hr] at h2
      have : y = 0 := by simpa using h2
      subst this
      rw [elN_zero] at e2
      exact absurd e2.symm (hO.2.2 (j + 1) (by omega) (by omega))
  · intro h x hx
    have hxm := List.mem_range.1 hx
    cases hr : rchB (mulN d (clsL d)) [i] x with
    | false => simp
    | true =>
      cases hr2 : rchB (mulN d (clsL d)) J x with
      | false => simp
      | true =>
        obtain ⟨k, hk⟩ := rch_pw D hi (rchB_iff.1 hr)
        have hmod : (clG D).pw (elN D i) k = (clG D).pw (elN D i) (k % ordF d (clsL d)[i]) := by
          conv => lhs; rw [← Nat.div_add_mod k (ordF d (clsL d)[i])]
          rw [Ab.pw_add, Ab.pw_mul, hO.2.1, Ab.pw_one, Ab.one_mul]
        rw [hmod] at hk
        by_cases h0 : k % ordF d (clsL d)[i] = 0
        · rw [h0] at hk
          have : x = 0 := elN_inj D hxm (ng_cls D).pos (by rw [hk, elN_zero]; rfl)
          simp [this]
        · exfalso
          have hlt := Nat.mod_lt k hO.1
          obtain ⟨y, hy, e1, e2⟩ := hix (k % ordF d (clsL d)[i])
          have hxy : x = y := elN_inj D hxm hy (hk.trans e2.symm)
          have hm : gix (clsL d) (pw d (clsL d)[i] (k % ordF d (clsL d)[i])) ∈ (pwI d (clsL d) (clsL d)[i] (ordF d (clsL d)[i])).tail := by
            obtain ⟨j, hj⟩ : ∃ j, k % ordF d (clsL d)[i] = j + 1 := ⟨k % ordF d (clsL d)[i] - 1, by omega⟩
            have hl : j < (pwI d (clsL d) (clsL d)[i] (ordF d (clsL d)[i])).tail.length := by rw [List.length_tail, pwI_len]; omega
            have e : (pwI d (clsL d) (clsL d)[i] (ordF d (clsL d)[i])).tail[j] = gix (clsL d) (pw d (clsL d)[i] (j + 1)) := by
              rw [List.getElem_tail]; unfold pwI; simp
            rw [hj, ← e]
            exact List.getElem_mem hl
          have h2 := h _ hm
          rw [e1, ← hxy, hr2] at h2
          simp at h2
end
end

section

section
variable {d : Int}
theorem ok_ind (D : Dsc d) {J : List Nat} (hJ : ∀ j ∈ J, j < (clsL d).length) {i n : Nat} (hi : i < (clsL d).length) (h : okB d J (n : Int) i = true) :
    ∃ T, (clG D).Sub T ∧ (∀ j ∈ J.map (elN D), j ∈ T) ∧ (clG D).Ind T (elN D i) n := by
  obtain ⟨T, t1, t2, t3, t4, t5⟩ := (clG D).span_ex (clG_all D) (clG_tor D) (J.map (elN D)) (fun j _ => List.mem_attach _ _)
  have ng := ng_cls D
  refine ⟨T, t1, t3, (ind_iff t1).2 ?_⟩
  unfold okB at h
  rw [Bool.and_eq_true, decide_eq_true_eq, List.all_eq_true] at h
  obtain ⟨h1, h2⟩ := h
  have hg : (clsL d).getD i ⟨0, 0, 0⟩ = (clsL d)[i] := by rw [List.getD_eq_getElem?_getD, List.getElem?_eq_getElem hi]; rfl
  have hO := clG_ord D (elN D i)
  rw [hg] at h1
  rw [elN_val D hi, show ordF d (clsL d)[i] = n by omega] at hO
  refine ⟨hO, fun k hk => ?_⟩
  obtain ⟨y, hy, e⟩ := elN_ex D ((clG D).pw (elN D i) k)
  have hr1 : Rch (mulN d (clsL d)) [i] y := rch_one D hi k y hy e
  have hr2 : Rch (mulN d (clsL d)) J y := by
    refine t4 (fun z => ∀ y, y < (clsL d).length → elN D y = z → Rch (mulN d (clsL d)) J y) ?_ ?_ _ hk y hy e
    · intro y hy e
      have : y = 0 := elN_inj D hy ng.pos (by rw [e, elN_zero])
      subst this; exact .zero
    · intro z hz g hg y hy e
      obtain ⟨j, hj, rfl⟩ := List.mem_map.1 hg
      obtain ⟨y', hy', e'⟩ := elN_ex D z
      have h3 := hz y' hy' e'
      have : y = mulN d (clsL d) y' j := elN_inj D hy (ng.lt _ _ hy' (hJ j hj)) (by rw [e, elN_mul D hy' (hJ j hj), e'])
      rw [this]
      exact .step h3 hj
  have h3 := h2 y (List.mem_range.2 hy)
  rw [rchB_iff.2 hr1, rchB_iff.2 hr2] at h3
  have : y = 0 := by simpa using h3
  subst this
  rw [← e, elN_zero]
/-- The chosen elements are a basis, with the factors as orders. -/
theorem bas_of (D : Dsc d) : ∀ t, (clG D).Bas (clsL d).attach ((bsN d t).map (elN D)) ((List.range t).reverse.map fun j => ((invL d).getD j 1).toNat)
  | 0 => .nil
  | t + 1 => by
    obtain ⟨hm, i, hi, hok, _, e⟩ := bsN_step D t
    obtain ⟨n, hn0, hn⟩ := inv_nat D t
    rw [hn] at hok
    obtain ⟨T, t1, t2, t3⟩ := ok_ind D hm hi hok
    rw [e, List.map_cons, List.range_succ, List.reverse_append, List.reverse_singleton, List.singleton_append, List.map_cons, hn, Int.toNat_natCast]
    exact .cons (bas_of D t) (List.mem_attach _ _) t1 t2 t3
end
end

section

theorem bump_ge {p : Int} (hp : 2 ≤ p) : ∀ (out : List Int) (i : Nat), (∀ y ∈ out, 2 ≤ y) → ∀ y ∈ bumpL out i p, 2 ≤ y
  | out, 0, h, y, hy => by rw [bumpL_zero] at hy; exact h y hy
  | [], i + 1, h, y, hy => by
    rw [bumpL, List.mem_cons] at hy
    rcases hy with rfl | hy
    · exact hp
    · exact bump_ge hp [] i h y hy
  | x :: out, i + 1, h, y, hy => by
    rw [bumpL, List.mem_cons] at hy
    rcases hy with rfl | hy
    · have h1 := h x (by simp)
      have : 2 * 2 ≤ x * p := Int.mul_le_mul h1 hp (by omega) (by omega)
      omega
    · exact bump_ge hp out i (fun z hz => h z (by simp [hz])) y hy
theorem facP_ge {d : Int} {p : Nat} (hp : 2 ≤ p) (out : List Int) (h : ∀ y ∈ out, 2 ≤ y) : ∀ j, ∀ y ∈ facP d p out j, 2 ≤ y
  | 0, y, hy => h y hy
  | j + 1, y, hy => by
    rw [facP] at hy
    exact bump_ge (by omega) _ _ (facP_ge hp out h j) y hy
theorem fold_ge {d : Int} : ∀ (F out : List Int), (∀ x ∈ F, 2 ≤ x.toNat) → (∀ y ∈ out, 2 ≤ y) → ∀ y ∈ F.foldl (facE d) out, 2 ≤ y
  | [], _, _, h => h
  | x :: F, out, hF, h => by
    rw [List.foldl_cons]
    exact fold_ge F _ (fun z hz => hF z (by simp [hz])) (facP_ge (hF x (by simp)) out h _)
section
variable {d : Int}
theorem inv_ge (D : Dsc d) : ∀ y ∈ invL d, 2 ≤ y := by
  have hm0 : 0 < (clsL d).length := List.length_pos_of_mem D.one
  have hm1 := clsL_len d
  unfold invL
  exact fold_ge _ [] (fun x hx => (prI_nat ((mem_prims (by omega) (by omega)).1 hx).1).1) (by simp)
theorem prod_two : ∀ L : List Int, (∀ y ∈ L, 2 ≤ y) → ((2 ^ L.length : Nat) : Int) ≤ prodI L
  | [], _ => by simp [prodI]
  | x :: L, h => by
    have h1 := h x (by simp)
    have h2 := prod_two L fun y hy => h y (by simp [hy])
    have h3 := Int.mul_le_mul h1 h2 (Int.natCast_nonneg _) (by omega)
    rw [prod_cons, List.length_cons, Nat.pow_succ, Int.natCast_mul]
    rw [Int.mul_comm] at h3
    exact h3
theorem prod_mem {y : Int} : ∀ L : List Int, (∀ y ∈ L, 2 ≤ y) → y ∈ L → y ≤ prodI L
  | x :: L, h, hy => by
    have h1 := h x (by simp)
    have h2 := prod_two L fun y hy => h y (by simp [hy])
    have h4 : 1 ≤ prodI L := by have := Nat.pow_pos (n := L.length) (show 0 < 2 by omega); omega
    rw [prod_cons]
    rcases List.mem_cons.1 hy with rfl | hy
    · have := Int.mul_le_mul_of_nonneg_left h4 (show 0 ≤ y by omega)
      omega
    · have h5 := prod_mem L (fun y hy => h y (by simp [hy])) hy
      have := Int.mul_le_mul_of_nonneg_right (show 1 ≤ x by omega) (show 0 ≤ prodI L by omega)
      omega
theorem inv_len20 (D : Dsc d) : (invL d).length ≤ 20 := by
  have h1 := prod_two _ (inv_ge D)
  have h2 := inv_prod D
  rw [prod_rev] at h2
  have hm1 := clsL_len d
  apply Classical.byContradiction
  intro h
  have h3 := Nat.pow_le_pow_right (show 0 < 2 by omega) (show 21 ≤ (invL d).length by omega)
  rw [h2] at h1
  have : (2 : Nat) ^ 21 = 2097152 := by decide
  omega
theorem inv_le (D : Dsc d) : ∀ y ∈ invL d, y ≤ (clsL d).length := by
  intro y hy
  have h := prod_mem _ (inv_ge D) hy
  have h2 := inv_prod D
  rw [prod_rev] at h2
  omega
theorem cR_anti (d : Int) (p j e : Nat) : cR d p (j + 1) e ≤ cR d p j e := by
  unfold cR
  rw [← List.countP_eq_length_filter, ← List.countP_eq_length_filter]
  apply List.countP_mono_left
  intro x _ h
  simp at h ⊢
  omega
theorem ppR_anti (d : Int) (j : Nat) : ∀ F : List Int, ppR d (j + 1) F ∣ ppR d j F
  | [] => Nat.dvd_refl _
  | x :: F => by
    rw [ppR, ppR]
    exact Nat.mul_dvd_mul (Nat.pow_dvd_pow _ (cR_anti _ _ _ _)) (ppR_anti d j F)
theorem inv_dvd (d : Int) (j : Nat) : (invL d).getD (j + 1) 1 ∣ (invL d).getD j 1 := by
  unfold invL
  rw [fold_get, fold_get]
  simpa using Int.natCast_dvd_natCast.2 (ppR_anti d j _)

/-- The factors, the least one first. -/
noncomputable def facN (d : Int) : List Nat := (invL d).reverse.map Int.toNat
theorem facN_len (d : Int) : (facN d).length = (invL d).length := by unfold facN; simp
theorem fac_eq (d : Int) : ((List.range (invL d).length).reverse.map fun j => ((invL d).getD j 1).toNat) = facN d := by
  unfold facN
  apply List.ext_getElem (by simp)
  intro i h1 h2
  simp at h1
  simp only [List.getElem_map, List.getElem_reverse, List.getElem_range, List.length_range, List.getD_eq_getElem?_getD]
  rw [List.getElem?_eq_getElem (by omega)]
  rfl
theorem toNat_prod : ∀ L : List Int, (∀ y ∈ L, 2 ≤ y) → (((L.map Int.toNat).foldr (· * ·) 1 : Nat) : Int) = prodI L
  | [], _ => by simp [prodI]
  | x :: L, h => by
    have h1 := h x (by simp)
    rw [List.map_cons, List.foldr_cons, Int.natCast_mul, toNat_prod L fun y hy => h y (by simp [hy]), prod_cons, Int.toNat_of_nonneg (by omega)]
theorem facN_prod (D : Dsc d) : (facN d).foldr (· * ·) 1 = (clsL d).length := by
  have := toNat_prod (invL d).reverse (fun y hy => inv_ge D y (List.mem_reverse.1 hy))
  rw [inv_prod D] at this
  unfold facN
  omega
theorem facN_ge (D : Dsc d) : ∀ n ∈ facN d, 2 ≤ n ∧ n ≤ 1640 := by
  intro n hn
  obtain ⟨y, hy, rfl⟩ := List.mem_map.1 hn
  have h1 := inv_ge D y (List.mem_reverse.1 hy)
  have h2 := inv_le D y (List.mem_reverse.1 hy)
  have := clsL_len d
  omega
theorem facN_int (D : Dsc d) : (facN d).map (fun n : Nat => (n : Int)) = (invL d).reverse := by
  unfold facN
  rw [List.map_map]
  conv => rhs; rw [← List.map_id (invL d).reverse]
  apply List.map_congr_left
  intro y hy
  have := inv_ge D y (List.mem_reverse.1 hy)
  simp
  omega
/-- The basis. -/
noncomputable def basN (d : Int) : List Nat := bsN d (invL d).length
theorem basN_len (d : Int) : (basN d).length = (facN d).length := by unfold basN; rw [bsN_len, facN_len]
theorem basN_lt (D : Dsc d) : ∀ j ∈ basN d, j < (clsL d).length := (bsN_step D _).1
theorem bas_all (D : Dsc d) : (clG D).Bas (clsL d).attach ((basN d).map (elN D)) (facN d) := by
  rw [← fac_eq]
  exact bas_of D _
end
end
end Go.Proofs.Ytkkamlhpappebaa
