/- Contracts: divisors, the sum of a character over them; roots of a discriminant; of the program (written by gen_ZD.py from CM and IG). -/
import Derived.Test.YtohgccgbbipjjaaGreatFN
import Derived.Test.YtohgccgbbipjjaaGreatXE
import Derived.Test.YtohgccgbbipjjaaGreatGG
import Derived.Test.YtohgccgbbipjjaaGreatN5
import Derived.Deep.DeepCutAuto
namespace Go.Proofs.YtohgccgbbipjjaaGreat
open Go.RowKit

/-- The divisors below k, and the quotients of those whose square is not n. -/
def dvLo (n k : Nat) : List Int := ((List.range k).filter fun i : Nat => decide (1 ≤ i) && decide (n % i = 0)).map fun i : Nat => (i : Int)
def dvHi (n k : Nat) : List Int := ((List.range k).filter fun i : Nat => decide (1 ≤ i) && (decide (n % i = 0) && decide (i * i ≠ n))).map fun i : Nat => ((n / i : Nat) : Int)
theorem dvLo_next (n k : Nat) (hk : 1 ≤ k) : dvLo n (k + 1) = dvLo n k ++ if n % k = 0 then [(k : Int)] else [] := by
  unfold dvLo
  rw [List.range_succ, List.filter_append, List.map_append]
  congr 1
  by_cases h : n % k = 0 <;> simp [h, hk]
theorem dvHi_next (n k : Nat) (hk : 1 ≤ k) : dvHi n (k + 1) = dvHi n k ++ if n % k = 0 ∧ k * k ≠ n then [((n / k : Nat) : Int)] else [] := by
  unfold dvHi
  rw [List.range_succ, List.filter_append, List.map_append]
  congr 1
  by_cases h : n % k = 0 <;> by_cases h2 : k * k = n <;> simp [h, hk, h2]
theorem dvLo_len (n k : Nat) : (dvLo n k).length ≤ k := by
  unfold dvLo
  rw [List.length_map]
  exact Nat.le_trans (List.length_filter_le _ _) (by simp)
theorem dvHi_len (n k : Nat) : (dvHi n k).length ≤ k := by
  unfold dvHi
  rw [List.length_map]
  exact Nat.le_trans (List.length_filter_le _ _) (by simp)
/-- All divisors, as they are found. -/
def dvAll (n k : Nat) : List Int := dvLo n k ++ (dvHi n k).reverse
theorem dvLo_mem {n k : Nat} {x : Int} : x ∈ dvLo n k ↔ ∃ i : Nat, x = i ∧ i < k ∧ 1 ≤ i ∧ n % i = 0 := by
  unfold dvLo
  rw [List.mem_map]
  constructor
  · rintro ⟨i, h, rfl⟩
    rw [List.mem_filter, List.mem_range] at h
    simp only [Bool.and_eq_true, decide_eq_true_eq] at h
    exact ⟨i, rfl, h.1, h.2.1, h.2.2⟩
  · rintro ⟨i, rfl, h1, h2, h3⟩
    exact ⟨i, List.mem_filter.2 ⟨List.mem_range.2 h1, by simp [h2, h3]⟩, rfl⟩
theorem dvHi_mem {n k : Nat} {x : Int} : x ∈ dvHi n k ↔ ∃ i : Nat, x = (n / i : Nat) ∧ i < k ∧ 1 ≤ i ∧ n % i = 0 ∧ i * i ≠ n := by
  unfold dvHi
  rw [List.mem_map]
  constructor
  · rintro ⟨i, h, rfl⟩
    rw [List.mem_filter, List.mem_range] at h
    simp only [Bool.and_eq_true, decide_eq_true_eq] at h
    exact ⟨i, rfl, h.1, h.2.1, h.2.2.1, h.2.2.2⟩
  · rintro ⟨i, rfl, h1, h2, h3, h4⟩
    exact ⟨i, List.mem_filter.2 ⟨List.mem_range.2 h1, by simp [h2, h3, h4]⟩, rfl⟩
/-- The list holds each divisor once. -/
theorem dvAll_ok {n k : Nat} (hn : 1 ≤ n) (h1 : ∀ i, 1 ≤ i → i < k → i * i ≤ n) (h2 : n < k * k) : (dvAll n k).Nodup ∧ ∀ x : Int, x ∈ dvAll n k ↔ ∃ i : Nat, x = i ∧ 1 ≤ i ∧ i ∣ n := by
  have cod : ∀ i : Nat, 1 ≤ i → n % i = 0 → i * (n / i) = n := fun i _ h => Nat.mul_div_cancel' (Nat.dvd_of_mod_eq_zero h)
  refine ⟨?_, fun x => ?_⟩
  · unfold dvAll
    rw [List.nodup_append]
    refine ⟨?_, ?_, ?_⟩
    · unfold dvLo List.Nodup
      exact List.Pairwise.map _ (R := fun x y : Nat => x ≠ y) (fun x y hxy he => hxy (by omega)) (List.nodup_range.filter _)
    · rw [(List.reverse_perm _).nodup_iff]
      unfold dvHi List.Nodup
      refine List.Pairwise.map _ (R := fun x y : Nat => (x ≠ y) ∧ (1 ≤ x ∧ n % x = 0) ∧ (1 ≤ y ∧ n % y = 0)) ?_ ?_
      · rintro x y ⟨hxy, ⟨hx1, hx2⟩, hy1, hy2⟩ he
        apply hxy
        have e : n / x = n / y := by omega
        have e1 := cod x hx1 hx2
        have e2 := cod y hy1 hy2
        rw [← e] at e2
        have hq : 0 < n / x := by
          rcases Nat.eq_zero_or_pos (n / x) with h0 | h0
          · rw [h0] at e1; omega
          · exact h0
        exact Nat.eq_of_mul_eq_mul_right hq (e1.trans e2.symm)
      · refine List.Pairwise.imp_of_mem (fun {i j} hi hj h => ⟨h, ?_, ?_⟩) (List.nodup_range.filter _)
        · rw [List.mem_filter] at hi
          simp only [Bool.and_eq_true, decide_eq_true_eq] at hi
          exact ⟨hi.2.1, hi.2.2.1⟩
        · rw [List.mem_filter] at hj
          simp only [Bool.and_eq_true, decide_eq_true_eq] at hj
          exact ⟨hj.2.1, hj.2.2.1⟩
    · intro x hx y hy he
      subst he
      rw [List.mem_reverse] at hy
      obtain ⟨i, rfl, i1, i2, i3⟩ := dvLo_mem.1 hx
      obtain ⟨j, hj, j1, j2, j3, j4⟩ := dvHi_mem.1 hy
      have e := cod j j2 j3
      have hij : i = n / j := by omega
      rw [← hij] at e
      have a := h1 i i2 i1
      have b := h1 j j2 j1
      have hlt : j * j < j * i := by rw [e]; omega
      have hji : j < i := Nat.lt_of_mul_lt_mul_left hlt
      have : j * i < i * i := Nat.mul_lt_mul_of_pos_right hji (by omega)
      omega
  · unfold dvAll
    rw [List.mem_append, List.mem_reverse]
    constructor
    · rintro (h | h)
      · obtain ⟨i, rfl, _, h3, h4⟩ := dvLo_mem.1 h
        exact ⟨i, rfl, h3, Nat.dvd_of_mod_eq_zero h4⟩
      · obtain ⟨i, rfl, _, h3, h4, _⟩ := dvHi_mem.1 h
        have e := cod i h3 h4
        refine ⟨n / i, rfl, ?_, ⟨i, by rw [Nat.mul_comm]; exact e.symm⟩⟩
        rcases Nat.eq_zero_or_pos (n / i) with h0 | h0
        · rw [h0] at e; omega
        · exact h0
    · rintro ⟨i, rfl, h3, h4⟩
      by_cases hik : i < k
      · exact .inl (dvLo_mem.2 ⟨i, rfl, hik, h3, Nat.mod_eq_zero_of_dvd h4⟩)
      · right
        obtain ⟨j, hj⟩ := h4
        have hj1 : 1 ≤ j := by
          rcases Nat.eq_zero_or_pos j with h0 | h0
          · rw [h0] at hj; omega
          · exact h0
        have hkk : k * k ≤ i * i := Nat.mul_le_mul (by omega) (by omega)
        have hji : j < i := by
          apply Nat.not_le.1; intro hl
          have := Nat.mul_le_mul_left i hl
          omega
        have hjk : j < k := by
          apply Nat.not_le.1; intro hl
          have := Nat.mul_le_mul (show k ≤ i by omega) hl
          omega
        refine dvHi_mem.2 ⟨j, ?_, hjk, hj1, by rw [hj, Nat.mul_mod_left], ?_⟩
        · rw [hj, Nat.mul_div_cancel _ hj1]
        · intro he
          rw [hj] at he
          have := Nat.mul_lt_mul_of_pos_right hji hj1
          omega
/-- The sum of a character over such a list. -/
theorem chr_sum {n : Nat} (hn : 1 ≤ n) {L : List Int} (hnd : L.Nodup) (hm : ∀ x : Int, x ∈ L ↔ ∃ i : Nat, x = i ∧ 1 ≤ i ∧ i ∣ n) (χ : Int → Int) : (L.map χ).sum = XS (fun k => χ k) n := by
  have hp : L.Perm (((List.range (n + 1)).filter fun i : Nat => decide (1 ≤ i ∧ i ∣ n)).map fun i : Nat => (i : Int)) := by
    refine (List.perm_ext_iff_of_nodup hnd ?_).2 fun x => ?_
    · unfold List.Nodup
      exact List.Pairwise.map _ (R := fun x y : Nat => x ≠ y) (fun x y hxy he => hxy (by omega)) (List.nodup_range.filter _)
    · rw [hm, List.mem_map]
      constructor
      · rintro ⟨i, rfl, h1, h2⟩
        exact ⟨i, List.mem_filter.2 ⟨List.mem_range.2 (by have := Nat.le_of_dvd (by omega) h2; omega), by simp [h1, h2]⟩, rfl⟩
      · rintro ⟨i, hi, rfl⟩
        rw [List.mem_filter, decide_eq_true_eq] at hi
        exact ⟨i, rfl, hi.2⟩
  have hs : ∀ A B : List Int, A.Perm B → A.sum = B.sum := by
    intro A B h
    induction h with
    | nil => rfl
    | cons x _ ih => rw [List.sum_cons, List.sum_cons, ih]
    | swap x y l => rw [List.sum_cons, List.sum_cons, List.sum_cons, List.sum_cons]; omega
    | trans _ _ h1 h2 => exact h1.trans h2
  rw [hs _ _ (hp.map χ), List.map_map]
  unfold XS
  have key : ∀ N : Nat, ((((List.range N).filter fun i : Nat => decide (1 ≤ i ∧ i ∣ n)).map (χ ∘ fun i : Nat => (i : Int))).sum) = SI (fun k => if k ∣ n then χ k else 0) N := by
    intro N
    induction N with
    | zero => rfl
    | succ N ih =>
      rw [List.range_succ, List.filter_append, List.map_append, List.sum_append, ih]
      show _ = SI (fun k => if k ∣ n then χ k else 0) N + (if N ∣ n then χ N else 0)
      congr 1
      by_cases h : N ∣ n
      · have h1 : 1 ≤ N := by
          rcases Nat.eq_zero_or_pos N with h0 | h0
          · rw [h0] at h; have := Nat.eq_zero_of_zero_dvd h; omega
          · exact h0
        simp [h, h1]
      · simp [h]
  exact key (n + 1)
theorem kro_bd : ∀ (m : Nat) (a n : Int), kro m a n = 0 ∨ kro m a n = 1 ∨ kro m a n = -1
  | 0, _, _ => .inl rfl
  | m + 1, a, n => by
    unfold kro
    split
    · split
      · exact .inl rfl
      · have ih := kro_bd m a (n / 2)
        rcases two_sg a with h | h <;> rcases ih with i | i | i <;> rw [h, i] <;> simp
    · exact jac_bd _ _ _
theorem own_emptyM {w : World} {B g : Nat} {e : TypeId} {sz : Nat} (hg : g = w.heap.size) (hB : B ≤ w.heap.size) : (w.alloc (.cells #[] e)).ownsRow B e sz (.slice (some ⟨g, 0, none⟩) 0 0) 0 [] := by
  subst hg; exact own_empty hB
theorem apart_back {w : World} {v v' vl : Value} {B n sz N : Nat} {e : TypeId} {xs : List Value} (ha : Apart vl v) (h : w.ownsRow B e sz vl n xs) (hN : w.heap.size ≤ N) (hloc : v'.ownBlock = v.ownBlock ∨ v'.ownBlock = some N) : Apart vl v' := by
  unfold Apart at *
  rcases hloc with e1 | e1
  · rw [e1]; exact ha
  · right
    rw [e1]
    intro he
    have := own_lt h N he.symm
    omega
theorem drop_rev {L : List Int} {j : Nat} (h : j < L.length) : (L.drop j).reverse = (L.drop (j + 1)).reverse ++ [L[j]] := by
  rw [List.drop_eq_getElem_cons h, List.reverse_cons]
/-- The state of the first loop. -/
def DvSt (n : Nat) (w : World) (v3 v4 v5 : Value) (wr : World) : Prop :=
  ∃ k : Nat, v5 = .int .i64 k ∧ 1 ≤ k ∧ k ≤ n + 1 ∧ Hid (∀ i, 1 ≤ i → i < k → i * i ≤ n) ∧ wr.ownsRow w.heap.size 3 1 v3 (dvLo n k).length (cellsI (dvLo n k)) ∧ wr.ownsRow w.heap.size 3 1 v4 (dvHi n k).length (cellsI (dvHi n k)) ∧ Apart v3 v4 ∧ Apart v4 v3 ∧ Below w.heap.size w wr
/-- The state of the second loop: m of the quotients are left. -/
def DvSt2 (L H : List Int) (w : World) (v4 : Value) (v3 v6 : Value) (wr : World) : Prop :=
  ∃ m : Nat, v6 = .int .i64 ((m : Int) - 1) ∧ m ≤ H.length ∧ wr.ownsRow w.heap.size 3 1 v3 (L ++ (H.drop m).reverse).length (cellsI (L ++ (H.drop m).reverse)) ∧ wr.ownsRow w.heap.size 3 1 v4 H.length (cellsI H) ∧ Apart v3 v4 ∧ Below w.heap.size w wr
set_option maxRecDepth 100000 in
set_option maxHeartbeats 6400000 in
theorem divisors_any (n : Nat) (w : World) (hn : 1 ≤ n) (hb : n ≤ 10000) :
    Calls Tryz.prog 41 #[.int .i64 n] w (fun e w' => ∃ L, L.Nodup ∧ (∀ x : Int, x ∈ L ↔ ∃ i : Nat, x = i ∧ 1 ≤ i ∧ i ∣ n) ∧ L.length ≤ 30000 ∧ RetI L w e w') := by
  obtain ⟨i0, hi, hz0, hz1, hz2⟩ := info_parts infoInt
  go_enter Tryz.func41, Tryz.ntmps41
  go_wp2
  go_loopw [3, 4, 5] (fun v3 v4 v5 wr => DvSt n w v3 v4 v5 wr) (fun _ _ v5 _ => n + 2 - (intOf v5).toNat)
  case atStart =>
    refine ⟨1, rfl, Nat.le_refl _, by omega, Lib.hid (fun i h1 h2 => by omega), ?_, ?_, .inr (by simp [Value.ownBlock]), .inr (by simp [Value.ownBlock]), (by repeat (first | with_reducible exact Below.refl _ _ | with_reducible assumption | with_reducible apply Below.drew | with_reducible apply below_drewN | (with_reducible apply below_setp; (first | omega | (simp <;> omega))) | (with_reducible apply below_allocp; (first | omega | (simp <;> omega))) | (with_reducible refine below_viap (by assumption) ?_ ?_; (first | omega | (simp <;> omega)))))⟩
    · rw [show dvLo n 1 = [] from rfl]; exact own_alloc (own_empty (Nat.le_refl _))
    · rw [show dvHi n 1 = [] from rfl]; exact own_emptyM (by simp) (by simp)
  case round =>
    obtain ⟨k, rfl, hk1, hkn, hsq, hown3, hown4, hapA, hapB, hbel⟩ := hrel
    have hz := hbel.size
    have hl3 := dvLo_len n k
    have hl4 := dvHi_len n k
    have hkk : (k : Int) * k ≤ 10001 * 10001 := Int.mul_le_mul (by omega) (by omega) (by omega) (by omega)
    have hkk0 : 0 ≤ (k : Int) * k := Int.mul_nonneg (by omega) (by omega)
    have hw1 : wrap64 ((k : Int) * k) = (k : Int) * k := IntWalk.wrap64_in _ (by omega)
    have hL := dvLo_next n k hk1
    have hH := dvHi_next n k hk1
    by_cases hle : k * k ≤ n
    · have hle' : (k : Int) * k ≤ (n : Int) := by rw [← Int.natCast_mul]; omega
      have hkle : k ≤ n := by
        have := Nat.mul_le_mul_left k hk1
        omega
      have hsq2 : Hid (∀ i, 1 ≤ i → i < k + 1 → i * i ≤ n) := Lib.hid (fun i h1 h2 => by
        by_cases he : i = k
        · rw [he]; exact hle
        · exact hsq.out i h1 (by omega))
      have hk0 : ((k : Int) == 0) = false := beq_eq_false_iff_ne.2 (by omega)
      have hk0' : ¬ (k : Int) = 0 := by omega
      have ht : (n : Int).tmod k = ((n % k : Nat) : Int) := rfl
      have hq : (n : Int).tdiv k = ((n / k : Nat) : Int) := rfl
      clear hkk hkk0
      by_cases hr : n % k = 0
      · have hr1 : (((n % k : Nat) : Int) != 0) = false := by rw [hr]; rfl
        have HL : Hid (dvLo n (k + 1) = dvLo n k ++ [(k : Int)]) := Lib.hid (by rw [hL, if_pos hr])
        clear hL
        by_cases he : k * k = n
        · have he' : ((k : Int) * k != (n : Int)) = false := by rw [← Int.natCast_mul, he]; simp
          have HH : Hid (dvHi n (k + 1) = dvHi n k) := Lib.hid (by rw [hH, if_neg (fun h => h.2 he), List.append_nil])
          clear hH hr he hle
          generalize dvLo n k = P at *
          generalize dvHi n k = Q at *
          generalize n % k = r at *
          generalize n / k = q at *
          go_wp2_with (at_builtin; refine wpList_append_own_at _ rfl (.tmp 20) (.tmp 22) 39 rfl w.heap.size 3 i0 _ 1 8 Tryz.underlying39 hi hz0 hz1 hz2 rfl (by decide) u3 P.length (cellsI P) rfl ?_ ⟨wr.heap.size, 0, none⟩ 1 1 [.int .i64 k] rfl rfl ?_ (one1 _) ?_ ?_ ?_ ?_; exact own_alloc hown3; exact cells1 (Blk.new_at (by simp)); (unfold maxLen; omega); omega; (simp <;> omega); intro x9 w9 hown9 hg9 _ hloc9)
          have hb9 : Below w.heap.size w w9 := below_grown (own_ge hown3) (by simp; omega) hg9 (by repeat (first | with_reducible exact Below.refl _ _ | with_reducible assumption | with_reducible apply Below.drew | with_reducible apply below_drewN | (with_reducible apply below_setp; (first | omega | (simp <;> omega))) | (with_reducible apply below_allocp; (first | omega | (simp <;> omega))) | (with_reducible refine below_viap (by assumption) ?_ ?_; (first | omega | (simp <;> omega)))))
          have ho9 := own_snocI HL.out hown9
          have hq1 := own_alloc (o := .cells #[.int .i64 k] 3) hown4
          have hq9 := hq1.kept hg9 hapA
          have ap1 := apart_next hapA hq1 (Nat.le_refl _) hloc9
          have ap2 := apart_back hapB hq1 (Nat.le_refl _) hloc9
          clear hg9 hown9 hown3 hown4 hloc9 hapA hapB hq1
          go_wp2
          go_roundw
          case rel => exact ⟨k + 1, by go_num, by omega, by omega, hsq2, ho9, by rw [HH.out]; exact hq9, ap1, ap2, hb9⟩
          case measure => (first | (simp [intOf]; done) | (simp [intOf]; omega))
        · have he' : ((k : Int) * k != (n : Int)) = true := by rw [bne_iff_ne, ← Int.natCast_mul]; omega
          have HH : Hid (dvHi n (k + 1) = dvHi n k ++ [((n / k : Nat) : Int)]) := Lib.hid (by rw [hH, if_pos ⟨hr, he⟩])
          clear hH hr he hle
          generalize dvLo n k = P at *
          generalize dvHi n k = Q at *
          generalize n % k = r at *
          have hqb : n / k ≤ 10000 := Nat.le_trans (Nat.div_le_self n k) hb
          generalize n / k = q at *
          have hw2 : wrap64 (q : Int) = (q : Int) := IntWalk.wrap64_in _ (by omega)
          go_upto_region 7 with (at_builtin; refine wpList_append_own_at _ rfl (.tmp 20) (.tmp 22) 39 rfl w.heap.size 3 i0 _ 1 8 Tryz.underlying39 hi hz0 hz1 hz2 rfl (by decide) u3 P.length (cellsI P) rfl ?_ ⟨wr.heap.size, 0, none⟩ 1 1 [.int .i64 k] rfl rfl ?_ (one1 _) ?_ ?_ ?_ ?_; exact own_alloc hown3; exact cells1 (Blk.new_at (by simp)); (unfold maxLen; omega); omega; (simp <;> omega); intro x9 w9 hown9 hg9 _ hloc9)
          have hz9 := hg9.size
          (try simp at hz9)
          have hb9 : Below w.heap.size w w9 := below_grown (own_ge hown3) (by simp; omega) hg9 (by repeat (first | with_reducible exact Below.refl _ _ | with_reducible assumption | with_reducible apply Below.drew | with_reducible apply below_drewN | (with_reducible apply below_setp; (first | omega | (simp <;> omega))) | (with_reducible apply below_allocp; (first | omega | (simp <;> omega))) | (with_reducible refine below_viap (by assumption) ?_ ?_; (first | omega | (simp <;> omega)))))
          have ho9 := own_snocI HL.out hown9
          have hq1 := own_alloc (o := .cells #[.int .i64 k] 3) hown4
          have hq9 := hq1.kept hg9 hapA
          have ap1 := apart_next hapA hq1 (Nat.le_refl _) hloc9
          have ap2 := apart_back hapB hq1 (Nat.le_refl _) hloc9
          clear hg9 hown9 hown3 hown4 hloc9 hapA hapB hq1
          have m1 : Q.length + 1 ≤ maxLen := by unfold maxLen; omega
          have m2 : (Q.length + 1) * 8 ≤ 140737488351232 := by omega
          have m3 : w.heap.size ≤ (w9.alloc (.cells #[.int .i64 q] 3)).heap.size := by simp <;> omega
          go_upto_region 8 with (fail)
          clear he' ht hr1 hw1 hle'
          obtain ⟨K, hKe⟩ : ∃ K : Int, (k : Int) = K := ⟨_, rfl⟩
          obtain ⟨M, hMe⟩ : ∃ M : Int, (n : Int) = M := ⟨_, rfl⟩
          rw [hKe] at hq hk0 hk0' ⊢
          rw [hMe] at hq ⊢
          have HKe := Lib.hid hKe
          have HMe := Lib.hid hMe
          clear hKe hMe
          go_upto_region 4 with (at_builtin; refine wpList_append_own_at _ rfl (.tmp 29) (.tmp 33) 39 rfl w.heap.size 3 i0 _ 1 8 Tryz.underlying39 hi hz0 hz1 hz2 rfl (by decide) u4 Q.length (cellsI Q) rfl ?_ ⟨w9.heap.size, 0, none⟩ 1 1 [.int .i64 q] rfl rfl ?_ (one1 _) ?_ ?_ ?_ ?_; exact own_alloc hq9; exact cells1 (Blk.new_at (by simp)); (first | exact m1 | (unfold maxLen; omega)); (first | exact m2 | omega); (first | exact m3 | (simp <;> omega)); intro x8 w8 hown8 hg8 _ hloc8)
          have hKe := HKe.out
          have hMe := HMe.out
          subst hKe
          subst hMe
          clear HKe HMe hq hk0 hk0'
          have hb8 : Below w.heap.size w w8 := below_grown (own_ge hq9) (by simp; omega) hg8 (by repeat (first | with_reducible exact Below.refl _ _ | with_reducible assumption | with_reducible apply Below.drew | with_reducible apply below_drewN | (with_reducible apply below_setp; (first | omega | (simp <;> omega))) | (with_reducible apply below_allocp; (first | omega | (simp <;> omega))) | (with_reducible refine below_viap (by assumption) ?_ ?_; (first | omega | (simp <;> omega)))))
          have ho8 := own_snocI HH.out hown8
          have hp1 := own_alloc (o := .cells #[.int .i64 q] 3) ho9
          have hp8 := hp1.kept hg8 ap2
          have ap3 := apart_next ap2 hp1 (Nat.le_refl _) hloc8
          have ap4 := apart_back ap1 hp1 (Nat.le_refl _) hloc8
          clear hg8 hown8 hq9 ho9 hloc8 ap1 ap2 hp1
          go_wp2
          go_roundw
          case rel => exact ⟨k + 1, by go_num, by omega, by omega, hsq2, hp8, ho8, ap4, ap3, hb8⟩
          case measure => (first | (simp [intOf]; done) | (simp [intOf]; omega))
      · have hr1 : (((n % k : Nat) : Int) != 0) = true := by rw [bne_iff_ne]; omega
        have HL : Hid (dvLo n (k + 1) = dvLo n k) := Lib.hid (by rw [hL, if_neg hr, List.append_nil])
        have HH : Hid (dvHi n (k + 1) = dvHi n k) := Lib.hid (by rw [hH, if_neg (fun h => hr h.1), List.append_nil])
        clear hL hH hr hle
        generalize n % k = r at *
        generalize n / k = q at *
        go_wp2
        go_roundw
        case rel => exact ⟨k + 1, by go_num, by omega, by omega, hsq2, by rw [HL.out]; exact hown3, by rw [HH.out]; exact hown4, hapA, hapB, hbel⟩
        case measure => (first | (simp [intOf]; done) | (simp [intOf]; omega))
    · have hle' : decide ((k : Int) * k ≤ (n : Int)) = false := decide_eq_false (by rw [← Int.natCast_mul]; omega)
      have HA := Lib.hid (dvAll_ok hn hsq.out (Nat.not_le.1 hle))
      have hlA : (dvAll n k).length ≤ 30000 := by unfold dvAll; rw [List.length_append, List.length_reverse]; omega
      have HA2 : Hid (dvAll n k = dvLo n k ++ (dvHi n k).reverse) := Lib.hid rfl
      clear hL hH hle hsq hapB hkk hkk0
      generalize dvAll n k = DA at *
      generalize dvLo n k = P at *
      generalize dvHi n k = Q at *
      obtain ⟨b4, c4, rfl⟩ := own_shape hown4
      go_wp2
      go_loopw [3, 6] (fun v3 v6 wr => DvSt2 P Q w (.slice b4 Q.length c4) v3 v6 wr) (fun _ v6 _ => (intOf v6 + 1).toNat)
      case atStart => exact ⟨Q.length, rfl, Nat.le_refl _, by rw [List.drop_length, List.reverse_nil, List.append_nil]; exact hown3, hown4, hapA, hbel⟩
      case round =>
        clear hown3 hown4 hapA hbel hz hw1 hle'
        obtain ⟨m, rfl, hm, hown3, hown4, hap, hbel⟩ := hrel
        have hz := hbel.size
        cases m with
        | zero =>
          rw [List.drop_zero, ← HA2.out] at hown3
          go_wp2
          go_ret
          exact ⟨DA, HA.out.1, HA.out.2, hlA, _, rfl, hown3, hbel⟩
        | succ j =>
          have hjL : j < Q.length := by omega
          have hd := drop_rev hjL
          obtain ⟨g, hbg, lg, d1⟩ := own_elemI hown4 hjL
          subst hbg
          have HD : Hid (P ++ (Q.drop j).reverse = P ++ (Q.drop (j + 1)).reverse ++ [Q[j]]) := Lib.hid (by rw [hd, List.append_assoc])
          have hlP : (P ++ (Q.drop (j + 1)).reverse).length ≤ 30000 := by rw [List.length_append, List.length_reverse, List.length_drop]; omega
          clear hd
          generalize Q[j] = x at *
          generalize P ++ (Q.drop (j + 1)).reverse = P2 at *
          rw [show ((j + 1 : Nat) : Int) - 1 = (j : Int) by omega]
          have hj0 : (0 : Int) ≤ (j : Int) := by omega
          have ng : ¬ g = wr.heap.size := by omega
          go_wp2_with (at_builtin; refine wpList_append_own_at _ rfl (.tmp 42) (.tmp 47) 39 rfl w.heap.size 3 i0 _ 1 8 Tryz.underlying39 hi hz0 hz1 hz2 rfl (by decide) u3 P2.length (cellsI P2) rfl ?_ ⟨wr.heap.size, 0, none⟩ 1 1 [.int .i64 x] rfl rfl ?_ (one1 _) ?_ ?_ ?_ ?_; exact own_alloc hown3; exact cells1 (Blk.new_at (by simp)); (unfold maxLen; omega); omega; (simp <;> omega); intro x9 w9 hown9 hg9 _ hloc9)
          have hb9 : Below w.heap.size w w9 := below_grown (own_ge hown3) (by simp; omega) hg9 (by repeat (first | with_reducible exact Below.refl _ _ | with_reducible assumption | with_reducible apply Below.drew | with_reducible apply below_drewN | (with_reducible apply below_setp; (first | omega | (simp <;> omega))) | (with_reducible apply below_allocp; (first | omega | (simp <;> omega))) | (with_reducible refine below_viap (by assumption) ?_ ?_; (first | omega | (simp <;> omega)))))
          have ho9 := own_snocI HD.out hown9
          have hq1 := own_alloc (o := .cells #[.int .i64 x] 3) hown4
          have hq9 := hq1.kept hg9 hap
          have ap1 := apart_next hap hq1 (Nat.le_refl _) hloc9
          clear hg9 hown9 hown3 hown4 hloc9 hap hq1
          go_wp2
          go_roundw
          case rel => exact ⟨j, rfl, by omega, ho9, hq9, ap1, hb9⟩
          case measure => (first | (simp [intOf]; done) | (simp [intOf]; omega))
set_option maxHeartbeats 1600000 in
theorem implDvs_any (n : Nat) (w : World) (hn : 1 ≤ n) (hb : n ≤ 10000) :
    Calls Tryz.prog 13 #[.int .i64 n] w (fun e w' => ∃ L v, L.Nodup ∧ (∀ x : Int, x ∈ L ↔ ∃ i : Nat, x = i ∧ 1 ≤ i ∧ i ∣ n) ∧ L.length ≤ 30000 ∧ e = .returned (.tuple #[v, .bool true]) ∧ w'.ownsRow w.heap.size 3 1 v L.length (cellsI L) ∧ Below w.heap.size w w') := by
  have hN := Lib.hid (fun e w => areNumF n e w)
  rw [(isNum_iff (n : Int)).2 (by omega)] at hN
  have hA := Lib.hid (fun w => abs_any (n : Int) w (by omega) (by omega))
  rw [Int.natAbs_natCast] at hA
  have hD := Lib.hid (fun w => divisors_any n w hn hb)
  have h0 : ((n : Int) == 0) = false := beq_eq_false_iff_ne.2 (by omega)
  go_enter Tryz.func13, Tryz.ntmps13
  go_wp2_with (first
    | (go_at_call 40; (with_reducible refine (hN.out _ _).mono ?_); rintro e v1 ⟨rfl, rfl⟩)
    | (go_at_call 42; (with_reducible refine (hA.out _).mono ?_); rintro e v ⟨rfl, rfl⟩)
    | (go_at_call 41; (with_reducible refine (hD.out _).mono ?_); rintro e v2 ⟨L, hL1, hL2, hL3, vl, rfl, hol, hB2⟩; have hZ2 := hB2.size; (try simp at hZ2)))
  go_ret2
  exact ⟨L, _, hL1, hL2, hL3, rfl, own_base (by simp <;> omega) hol, (by repeat (first | with_reducible exact Below.refl _ _ | with_reducible assumption | with_reducible apply Below.drew | with_reducible apply below_drewN | (with_reducible apply below_setp; (first | omega | (simp <;> omega))) | (with_reducible apply below_allocp; (first | omega | (simp <;> omega))) | (with_reducible refine below_viap (by assumption) ?_ ?_; (first | omega | (simp <;> omega)))))⟩
set_option maxRecDepth 100000 in
set_option maxHeartbeats 3200000 in
theorem roots_any (d n : Int) (w : World) (d1 : -2000 ≤ d) (d2 : d ≤ -3) (h1 : 1 ≤ n) (h2 : n ≤ 2500) :
    Calls Tryz.prog 74 #[.int .i64 d, .int .i64 n] w (RetI (rdL d n (2 * n).toNat) w) := by
  obtain ⟨i0, hi, hz0, hz1, hz2⟩ := info_parts infoInt
  have n4 : ¬ 4 * n = 0 := by omega
  have n5 : (4 * n == 0) = false := by rw [beq_eq_false_iff_ne]; exact n4
  obtain ⟨m, hm⟩ : ∃ m : Nat, (2 * n).toNat = m := ⟨_, rfl⟩
  have hmn : 2 * n = m := by omega
  have Hmn := Lib.hid hmn
  have hm5 : m ≤ 5000 := by omega
  rw [hm]
  clear hm hmn
  go_enter Tryz.func74, Tryz.ntmps74
  go_wp2
  go_loopw [5, 6] (fun v vb wr => ∃ k : Nat, vb = .int .i64 k ∧ k ≤ m ∧ wr.ownsRow w.heap.size 3 1 v (rdL d n k).length (cellsI (rdL d n k)) ∧ Below w.heap.size w wr) (fun _ vb _ => m - (intOf vb).toNat)
  case atStart => exact ⟨0, rfl, Nat.zero_le _, own_empty (Nat.le_refl _), (by repeat (first | with_reducible exact Below.refl _ _ | with_reducible assumption | with_reducible apply Below.drew | with_reducible apply below_drewN | (with_reducible apply below_setp; (first | omega | (simp <;> omega))) | (with_reducible apply below_allocp; (first | omega | (simp <;> omega))) | (with_reducible refine below_viap (by assumption) ?_ ?_; (first | omega | (simp <;> omega)))))⟩
  case round =>
    obtain ⟨k, rfl, hk, hown, hbel⟩ := hrel
    have hz := hbel.size
    have hql := rdL_len d n k
    have hnx := rdL_next d n k
    have hkk : 0 ≤ (k : Int) * k ∧ (k : Int) * k ≤ 5000 * 5000 := ⟨Int.mul_nonneg (by omega) (by omega), Int.mul_le_mul (by omega) (by omega) (by omega) (by omega)⟩
    have htm : ((k : Int) * k - d).tmod (4 * n) = ((k : Int) * k - d) % (4 * n) := Int.tmod_eq_emod_of_nonneg (by omega)
    by_cases hlt : k < m
    · have hlx : (k : Int) < 2 * n := by have := Hmn.out; omega
      generalize hP : rdL d n k = P at *
      by_cases hd : ((k : Int) * k - d) % (4 * n) = 0
      · have e7 : (((k : Int) * k - d) % (4 * n) == 0) = true := by rw [beq_iff_eq]; exact hd
        have Hnx : Hid (rdL d n (k + 1) = P ++ [(k : Int)]) := Lib.hid (by rw [hnx]; simp [rdP, hd])
        clear hd hnx hP
        go_wp2_with (at_builtin; refine wpList_append_own_at _ rfl (.tmp 23) (.tmp 25) 39 rfl w.heap.size 3 i0 _ 1 8 Tryz.underlying39 hi hz0 hz1 hz2 rfl (by decide) u5 P.length (cellsI P) rfl ?_ ⟨wr.heap.size, 0, none⟩ 1 1 [.int .i64 (k : Int)] rfl rfl ?_ (one1 _) ?_ ?_ ?_ ?_; exact (by repeat (first | with_reducible assumption | with_reducible apply own_alloc | with_reducible apply own_drew | with_reducible apply own_drewN | (with_reducible refine own_setp (by assumption) ?_ ?_; (first | omega | (simp <;> omega))) | (with_reducible refine own_call (by assumption) ?_))); exact cells1 (Blk.new_at (by simp)); (unfold maxLen; omega); omega; (simp; omega); intro x9 w9 hown9 hg9 _ hloc9)
        have hb9 : Below w.heap.size w w9 := below_grown (own_ge hown) (by simp; omega) hg9 (by repeat (first | with_reducible exact Below.refl _ _ | with_reducible assumption | with_reducible apply Below.drew | with_reducible apply below_drewN | (with_reducible apply below_setp; (first | omega | (simp <;> omega))) | (with_reducible apply below_allocp; (first | omega | (simp <;> omega))) | (with_reducible refine below_viap (by assumption) ?_ ?_; (first | omega | (simp <;> omega)))))
        have ho9 := own_snocI Hnx.out hown9
        clear hg9 hown9 hown hloc9
        go_wp2
        go_roundw
        case rel => exact ⟨k + 1, by go_num, hlt, ho9, hb9⟩
        case measure => (first | (simp [intOf]; done) | (simp [intOf]; omega))
      · have e7 : (((k : Int) * k - d) % (4 * n) == 0) = false := by rw [beq_eq_false_iff_ne]; exact hd
        have Hnx : Hid (rdL d n (k + 1) = P) := Lib.hid (by rw [hnx]; simp [rdP, hd])
        clear hd hnx hP
        go_wp2
        go_roundw
        case rel => exact ⟨k + 1, by go_num, hlt, by rw [Hnx.out]; exact hown, hbel⟩
        case measure => (first | (simp [intOf]; done) | (simp [intOf]; omega))
    · have ek : k = m := by omega
      have hlx : ¬ (k : Int) < 2 * n := by have := Hmn.out; omega
      subst ek
      clear hnx
      go_wp2
      go_ret
      exact ⟨_, rfl, hown, hbel⟩

end Go.Proofs.YtohgccgbbipjjaaGreat
