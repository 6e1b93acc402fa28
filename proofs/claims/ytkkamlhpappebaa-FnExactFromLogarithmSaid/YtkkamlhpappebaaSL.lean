/- Plain facts: the primes' powers in an invariant factor; so the greedy choice finds an element at each step. -/
import Derived.Test.YtkkamlhpappebaaSK
namespace Go.Proofs.Ytkkamlhpappebaa

theorem bump_get : ∀ (out : List Int) (k : Nat) (q : Int) (j : Nat), (bumpL out k q).getD j 1 = (if j < k then q else 1) * out.getD j 1
  | out, 0, q, j => by rw [bumpL_zero]; simp
  | [], k + 1, q, 0 => by simp [bumpL]
  | [], k + 1, q, j + 1 => by
    have := bump_get [] k q j
    rw [bumpL, List.getD_cons_succ, this]
    simp
  | x :: out, k + 1, q, 0 => by simp [bumpL, Int.mul_comm]
  | x :: out, k + 1, q, j + 1 => by
    have := bump_get out k q j
    rw [bumpL, List.getD_cons_succ, this, List.getD_cons_succ]
    simp
/-- How often a prime stands in the factor j. -/
noncomputable def cR (d : Int) (p j e : Nat) : Nat := ((List.range e).filter fun i => decide (j < rkP d p i)).length
theorem facP_get (d : Int) (p : Nat) (out : List Int) (j : Nat) : ∀ e, (facP d p out e).getD j 1 = ((p ^ cR d p j e : Nat) : Int) * out.getD j 1
  | 0 => by simp [facP, cR]
  | e + 1 => by
    rw [facP, bump_get, facP_get d p out j e]
    unfold cR
    rw [List.range_succ, List.filter_append, List.length_append]
    by_cases h : j < rkP d p e
    · rw [if_pos h]
      simp only [h, decide_true, List.filter_cons_of_pos, List.filter_nil, List.length_singleton]
      rw [Nat.pow_succ, Int.natCast_mul]
      grind
    · rw [if_neg h]
      simp [h]
noncomputable def ppR (d : Int) (j : Nat) : List Int → Nat
  | [] => 1
  | x :: F => x.toNat ^ cR d x.toNat j (exE (clsL d).length x.toNat) * ppR d j F
theorem fold_get (d : Int) (j : Nat) : ∀ (F out : List Int), (F.foldl (facE d) out).getD j 1 = ((ppR d j F : Nat) : Int) * out.getD j 1
  | [], out => by simp [ppR]
  | x :: F, out => by
    rw [List.foldl_cons, fold_get d j F]
    unfold facE
    rw [facP_get, ppR, Int.natCast_mul]
    grind
theorem ppR_cop {d : Int} {j q : Nat} : ∀ F : List Int, (∀ x ∈ F, Nat.Coprime q x.toNat) → Nat.Coprime q (ppR d j F)
  | [], _ => Nat.coprime_one_right _
  | x :: F, h => Nat.Coprime.mul_right (Nat.Coprime.pow_right _ (h x (by simp))) (ppR_cop F fun y hy => h y (by simp [hy]))
theorem ppR_dvd {d : Int} {j p n : Nat} (hp : Ab.PrN p) : ∀ F : List Int, (∀ x ∈ F, Ab.PrN x.toNat) → SAsc F → 1 ≤ n → p ^ n ∣ ppR d j F → p ^ n ∣ p ^ cR d p j (exE (clsL d).length p)
  | [], _, _, hn, h => by
    exfalso
    have h2 : p ∣ 1 := Nat.dvd_trans (by obtain ⟨k, rfl⟩ : ∃ k, n = k + 1 := ⟨n - 1, by omega⟩; exact ⟨p ^ k, by rw [Nat.pow_succ, Nat.mul_comm]⟩) h
    have := Nat.dvd_one.1 h2
    have := hp.1
    omega
  | x :: F, hF, hs, hn, h => by
    have hx := hF x (by simp)
    by_cases e : x.toNat = p
    · have hc : Nat.Coprime p (ppR d j F) := ppR_cop F fun y hy => by
        have h3 := hs.1 y hy
        have h4 := hF y (by simp [hy])
        exact pr_cop hp h4 (by have := h4.1; omega)
      rw [ppR, e] at h
      exact (Nat.Coprime.pow_left n hc).dvd_of_dvd_mul_right h
    · have hc : Nat.Coprime p x.toNat := by
        rcases Nat.lt_or_gt_of_ne e with h1 | h1
        · exact (pr_cop hx hp h1).symm
        · exact pr_cop hp hx h1
      rw [ppR] at h
      exact ppR_dvd hp F (fun y hy => hF y (by simp [hy])) hs.2 hn ((Nat.Coprime.pow_left n (Nat.Coprime.pow_right _ hc)).dvd_of_dvd_mul_left h)
/-- A prime's power in the factor j: some count of its powers is above j. -/
theorem inv_pow {d : Int} (D : Dsc d) {p e j n : Nat} (hp : Ab.PrN p) (hn : (invL d).getD j 1 = (n : Int)) (h : p ^ (e + 1) ∣ n) : ∃ i, e ≤ i ∧ j < rkP d p i := by
  have hm0 : 0 < (clsL d).length := List.length_pos_of_mem D.one
  have hm1 := clsL_len d
  have hpr : ∀ x ∈ prims (clsL d).length, Ab.PrN x.toNat := fun x hx => prI_nat ((mem_prims (by omega) (by omega)).1 hx).1
  have h1 := fold_get d j (prims (clsL d).length) []
  have h2 : (invL d).getD j 1 = ((ppR d j (prims (clsL d).length) : Nat) : Int) := by
    unfold invL; rw [h1]; simp
  rw [h2] at hn
  have h3 : ppR d j (prims (clsL d).length) = n := by omega
  rw [← h3] at h
  have h4 := ppR_dvd hp _ hpr (prims_sasc (by omega)) (by omega) h
  have h5 := (Nat.pow_dvd_pow_iff_le_right (by have := hp.1; omega)).1 h4
  apply Classical.byContradiction
  intro hno
  have h6 : cR d p j (exE (clsL d).length p) ≤ e := by
    unfold cR
    have hs : ∀ x ∈ (List.range (exE (clsL d).length p)).filter (fun i => decide (j < rkP d p i)), x ∈ List.range e := fun x hx => by
      obtain ⟨_, hx2⟩ := List.mem_filter.1 hx
      rw [decide_eq_true_eq] at hx2
      rw [List.mem_range]
      apply Nat.not_le.1
      intro hle
      exact hno ⟨x, hle, hx2⟩
    have := (List.Nodup.sublist List.filter_sublist List.nodup_range : ((List.range (exE (clsL d).length p)).filter (fun i => decide (j < rkP d p i))).Nodup).length_le_of_subset hs
    simpa using this
  omega
/-- At each step there is an element whose order is the factor, also modulo what stands already. -/
theorem bas_step {d : Int} (D : Dsc d) {T : List {f : Fm // f ∈ clsL d}} (hT : (clG D).Sub T) {j n : Nat} (hJ : ∀ p, 0 < p → ((clG D).tors T p).length ≤ p ^ j) (hn : (invL d).getD j 1 = (n : Int)) (hn0 : 0 < n) : ∃ x ∈ (clsL d).attach, (clG D).Ind T x n := by
  refine Ab.ind_all (clG D) (clG_all D) hT n (fun p e r hp he hr => ?_) n 1 hn0 (by omega) (Nat.coprime_one_right _)
  obtain ⟨i, hi, hj⟩ := inv_pow D (e := e) hp hn ⟨r, he⟩
  have hp2 := hp.1
  refine Ab.ind_pow (clG D) (clG_all D) hT hp hi (hJ p (by omega)) ?_
  rw [← cnt_tors D, ← cnt_tors D, cnt_succ D hp i, Nat.mul_comm]
  exact Nat.mul_lt_mul_of_pos_left (Nat.pow_lt_pow_right (by omega) hj) (cnt_pos D _)
theorem ind_iff {α : Type} {G : Ab α} {T : List α} (hT : G.Sub T) {x : α} {n : Nat} : G.Ind T x n ↔ G.IsO x n ∧ ∀ k, G.pw x k ∈ T → G.pw x k = G.one := by
  constructor
  · intro h
    have ho := h.isO hT
    exact ⟨ho, fun k hk => ho.of_dvd G (h.2.2 k hk)⟩
  · rintro ⟨ho, h⟩
    exact ⟨ho.1, ho.2.1, fun k hk => ho.dvd G (h k hk)⟩
end Go.Proofs.Ytkkamlhpappebaa
