/- Plain facts: the invariant factors are at least two, few, and each divides the one before; the basis of all of them. -/
import Derived.Test.YtkkamlhpappebaaSR
import Derived.Test.YtkkamlhpappebaaSY
namespace Go.Proofs.Ytkkamlhpappebaa

theorem bump_ge {p : Int} (hp : 2 ≤ p) : ∀ (out : List Int) (i : Nat), (∀ y ∈ out, 2 ≤ y) → ∀ y ∈ bumpL out i p, 2 ≤ y
  | out, 0, h, y, hy => by rw [bumpL_zero] at hy; exact h y hy
  | [], i + 1, h, y, hy => by
    rw [bumpL, List.mem_cons] at hy
    rcases hy with rfl | hy
    · exact hp
    · exact bump_ge hp [] i h y hy
  | x :: out, i + 1, h, y, hy => by
    rw [bumpL, List.mem_cons] at hy
    rcases hy with rfl | hy
    · have h1 := h x (by simp)
      have : 2 * 2 ≤ x * p := Int.mul_le_mul h1 hp (by omega) (by omega)
      omega
    · exact bump_ge hp out i (fun z hz => h z (by simp [hz])) y hy
theorem facP_ge {d : Int} {p : Nat} (hp : 2 ≤ p) (out : List Int) (h : ∀ y ∈ out, 2 ≤ y) : ∀ j, ∀ y ∈ facP d p out j, 2 ≤ y
  | 0, y, hy => h y hy
  | j + 1, y, hy => by
    rw [facP] at hy
    exact bump_ge (by omega) _ _ (facP_ge hp out h j) y hy
theorem fold_ge {d : Int} : ∀ (F out : List Int), (∀ x ∈ F, 2 ≤ x.toNat) → (∀ y ∈ out, 2 ≤ y) → ∀ y ∈ F.foldl (facE d) out, 2 ≤ y
  | [], _, _, h => h
  | x :: F, out, hF, h => by
    rw [List.foldl_cons]
    exact fold_ge F _ (fun z hz => hF z (by simp [hz])) (facP_ge (hF x (by simp)) out h _)
section
variable {d : Int}
theorem inv_ge (D : Dsc d) : ∀ y ∈ invL d, 2 ≤ y := by
  have hm0 : 0 < (clsL d).length := List.length_pos_of_mem D.one
  have hm1 := clsL_len d
  unfold invL
  exact fold_ge _ [] (fun x hx => (prI_nat ((mem_prims (by omega) (by omega)).1 hx).1).1) (by simp)
theorem prod_two : ∀ L : List Int, (∀ y ∈ L, 2 ≤ y) → ((2 ^ L.length : Nat) : Int) ≤ prodI L
  | [], _ => by simp [prodI]
  | x :: L, h => by
    have h1 := h x (by simp)
    have h2 := prod_two L fun y hy => h y (by simp [hy])
    have h3 := Int.mul_le_mul h1 h2 (Int.natCast_nonneg _) (by omega)
    rw [prod_cons, List.length_cons, Nat.pow_succ, Int.natCast_mul]
    rw [Int.mul_comm] at h3
    exact h3
theorem prod_mem {y : Int} : ∀ L : List Int, (∀ y ∈ L, 2 ≤ y) → y ∈ L → y ≤ prodI L
  | x :: L, h, hy => by
    have h1 := h x (by simp)
    have h2 := prod_two L fun y hy => h y (by simp [hy])
    have h4 : 1 ≤ prodI L := by have := Nat.pow_pos (n := L.length) (show 0 < 2 by omega); omega
    rw [prod_cons]
    rcases List.mem_cons.1 hy with rfl | hy
    · have := Int.mul_le_mul_of_nonneg_left h4 (show 0 ≤ y by omega)
      omega
    · have h5 := prod_mem L (fun y hy => h y (by simp [hy])) hy
      have := Int.mul_le_mul_of_nonneg_right (show 1 ≤ x by omega) (show 0 ≤ prodI L by omega)
      omega
theorem inv_len20 (D : Dsc d) : (invL d).length ≤ 20 := by
  have h1 := prod_two _ (inv_ge D)
  have h2 := inv_prod D
  rw [prod_rev] at h2
  have hm1 := clsL_len d
  apply Classical.byContradiction
  intro h
  have h3 := Nat.pow_le_pow_right (show 0 < 2 by omega) (show 21 ≤ (invL d).length by omega)
  rw [h2] at h1
  have : (2 : Nat) ^ 21 = 2097152 := by decide
  omega
theorem inv_le (D : Dsc d) : ∀ y ∈ invL d, y ≤ (clsL d).length := by
  intro y hy
  have h := prod_mem _ (inv_ge D) hy
  have h2 := inv_prod D
  rw [prod_rev] at h2
  omega
theorem cR_anti (d : Int) (p j e : Nat) : cR d p (j + 1) e ≤ cR d p j e := by
  unfold cR
  rw [← List.countP_eq_length_filter, ← List.countP_eq_length_filter]
  apply List.countP_mono_left
  intro x _ h
  simp at h ⊢
  omega
theorem ppR_anti (d : Int) (j : Nat) : ∀ F : List Int, ppR d (j + 1) F ∣ ppR d j F
  | [] => Nat.dvd_refl _
  | x :: F => by
    rw [ppR, ppR]
    exact Nat.mul_dvd_mul (Nat.pow_dvd_pow _ (cR_anti _ _ _ _)) (ppR_anti d j F)
theorem inv_dvd (d : Int) (j : Nat) : (invL d).getD (j + 1) 1 ∣ (invL d).getD j 1 := by
  unfold invL
  rw [fold_get, fold_get]
  simpa using Int.natCast_dvd_natCast.2 (ppR_anti d j _)

/-- The factors, the least one first. -/
noncomputable def facN (d : Int) : List Nat := (invL d).reverse.map Int.toNat
theorem facN_len (d : Int) : (facN d).length = (invL d).length := by unfold facN; simp
theorem fac_eq (d : Int) : ((List.range (invL d).length).reverse.map fun j => ((invL d).getD j 1).toNat) = facN d := by
  unfold facN
  apply List.ext_getElem (by simp)
  intro i h1 h2
  simp at h1
  simp only [List.getElem_map, List.getElem_reverse, List.getElem_range, List.length_range, List.getD_eq_getElem?_getD]
  rw [List.getElem?_eq_getElem (by omega)]
  rfl
theorem toNat_prod : ∀ L : List Int, (∀ y ∈ L, 2 ≤ y) → (((L.map Int.toNat).foldr (· * ·) 1 : Nat) : Int) = prodI L
  | [], _ => by simp [prodI]
  | x :: L, h => by
    have h1 := h x (by simp)
    rw [List.map_cons, List.foldr_cons, Int.natCast_mul, toNat_prod L fun y hy => h y (by simp [hy]), prod_cons, Int.toNat_of_nonneg (by omega)]
theorem facN_prod (D : Dsc d) : (facN d).foldr (· * ·) 1 = (clsL d).length := by
  have := toNat_prod (invL d).reverse (fun y hy => inv_ge D y (List.mem_reverse.1 hy))
  rw [inv_prod D] at this
  unfold facN
  omega
theorem facN_ge (D : Dsc d) : ∀ n ∈ facN d, 2 ≤ n ∧ n ≤ 1640 := by
  intro n hn
  obtain ⟨y, hy, rfl⟩ := List.mem_map.1 hn
  have h1 := inv_ge D y (List.mem_reverse.1 hy)
  have h2 := inv_le D y (List.mem_reverse.1 hy)
  have := clsL_len d
  omega
theorem facN_int (D : Dsc d) : (facN d).map (fun n : Nat => (n : Int)) = (invL d).reverse := by
  unfold facN
  rw [List.map_map]
  conv => rhs; rw [← List.map_id (invL d).reverse]
  apply List.map_congr_left
  intro y hy
  have := inv_ge D y (List.mem_reverse.1 hy)
  simp
  omega
/-- The basis. -/
noncomputable def basN (d : Int) : List Nat := bsN d (invL d).length
theorem basN_len (d : Int) : (basN d).length = (facN d).length := by unfold basN; rw [bsN_len, facN_len]
theorem basN_lt (D : Dsc d) : ∀ j ∈ basN d, j < (clsL d).length := (bsN_step D _).1
theorem bas_all (D : Dsc d) : (clG D).Bas (clsL d).attach ((basN d).map (elN D)) (facN d) := by
  rw [← fac_eq]
  exact bas_of D _
end
end Go.Proofs.Ytkkamlhpappebaa
