/- Parts Y6 Y7 Y8 YA laid together by tp.py. -/
import Derived.Test.YtblcmkhkbgikoaaGreatGG
import Derived.Test.YtblcmkhkbgikoaaGreatN5
import Derived.Test.YtblcmkhkbgikoaaGreatCA
import Derived.Deep.DeepCutAuto
import Derived.Test.YtblcmkhkbgikoaaGreatHR
import Derived.Test.YtblcmkhkbgikoaaGreatI6
import Derived.BigQuiet
namespace Go.Proofs.YtblcmkhkbgikoaaGreat
section
open Go.RowKit

/-- The divisors below k, and the quotients of those whose square is not n. -/
def dvLo (n k : Nat) : List Int := ((List.range k).filter fun i : Nat => decide (1 ≤ i) && decide (n % i = 0)).map fun i : Nat => (i : Int)
def dvHi (n k : Nat) : List Int := ((List.range k).filter fun i : Nat => decide (1 ≤ i) && (decide (n % i = 0) && decide (i * i ≠ n))).map fun i : Nat => ((n / i : Nat) : Int)
theorem dvLo_next (n k : Nat) (hk : 1 ≤ k) : dvLo n (k + 1) = dvLo n k ++ if n % k = 0 then [(k : Int)] else [] := by
  unfold dvLo
  rw [List.range_succ, List.filter_append, List.map_append]
  congr 1
  by_cases h : n % k = 0 <;> simp [h, hk]
theorem dvHi_next (n k : Nat) (hk : 1 ≤ k) : dvHi n (k + 1) = dvHi n k ++ if n % k = 0 ∧ k * k ≠ n then [((n / k : Nat) : Int)] else [] := by
  unfold dvHi
  rw [List.range_succ, List.filter_append, List.map_append]
  congr 1
  by_cases h : n % k = 0 <;> by_cases h2 : k * k = n <;> simp [h, hk, h2]
theorem dvLo_len (n k : Nat) : (dvLo n k).length ≤ k := by
  unfold dvLo
  rw [List.length_map]
  exact Nat.le_trans (List.length_filter_le _ _) (by simp)
theorem dvHi_len (n k : Nat) : (dvHi n k).length ≤ k := by
  unfold dvHi
  rw [List.length_map]
  exact Nat.le_trans (List.length_filter_le _ _) (by simp)
/-- All divisors, as they are found. -/
def dvAll (n k : Nat) : List Int := dvLo n k ++ (dvHi n k).reverse
/-- The divisors, in order. -/
def divs (n : Nat) : List Int := ((List.range (n + 1)).filter fun i : Nat => decide (1 ≤ i) && decide (n % i = 0)).map fun i : Nat => (i : Int)
theorem dvAll_tab : ∀ n ∈ List.range 101, ∀ k ∈ List.range 12, 1 ≤ n → (k - 1) * (k - 1) ≤ n → n < k * k → dvAll n k = divs n := by decide +kernel
theorem divs_tab : ∀ n ∈ List.range 101, (divs n).length ≤ 100 ∧ (divs n).all (fun x => decide (1 ≤ x) && (decide (x ≤ 100) && decide (x * ((n : Int) / x) = n))) = true := by decide +kernel
theorem dvAll_eq {n k : Nat} (hn : 1 ≤ n) (hb : n ≤ 100) (hk : 1 ≤ k) (h1 : ∀ i, 1 ≤ i → i < k → i * i ≤ n) (h2 : n < k * k) : dvAll n k = divs n := by
  have h3 : (k - 1) * (k - 1) ≤ n := by
    by_cases e : k = 1
    · subst e; simp
    · exact h1 (k - 1) (by omega) (by omega)
  have h4 : k < 12 := by
    apply Nat.lt_of_not_le
    intro hl
    have := Nat.mul_le_mul (show 11 ≤ k - 1 by omega) (show 11 ≤ k - 1 by omega)
    omega
  exact dvAll_tab n (List.mem_range.2 (by omega)) k (List.mem_range.2 h4) hn h3 h2
theorem divs_len {n : Nat} (hb : n ≤ 100) : (divs n).length ≤ 100 := (divs_tab n (List.mem_range.2 (by omega))).1
theorem divs_mem {n : Nat} (hb : n ≤ 100) {x : Int} (h : x ∈ divs n) : 1 ≤ x ∧ x ≤ 100 ∧ x * ((n : Int) / x) = n := by
  have := List.all_eq_true.1 (divs_tab n (List.mem_range.2 (by omega))).2 x h
  simp only [Bool.and_eq_true, decide_eq_true_eq] at this
  exact this
theorem own_emptyM {w : World} {B g : Nat} {e : TypeId} {sz : Nat} (hg : g = w.heap.size) (hB : B ≤ w.heap.size) : (w.alloc (.cells #[] e)).ownsRow B e sz (.slice (some ⟨g, 0, none⟩) 0 0) 0 [] := by
  subst hg; exact own_empty hB
theorem apart_back {w : World} {v v' vl : Value} {B n sz N : Nat} {e : TypeId} {xs : List Value} (ha : Apart vl v) (h : w.ownsRow B e sz vl n xs) (hN : w.heap.size ≤ N) (hloc : v'.ownBlock = v.ownBlock ∨ v'.ownBlock = some N) : Apart vl v' := by
  unfold Apart at *
  rcases hloc with e1 | e1
  · rw [e1]; exact ha
  · right
    rw [e1]
    intro he
    have := own_lt h N he.symm
    omega
theorem drop_rev {L : List Int} {j : Nat} (h : j < L.length) : (L.drop j).reverse = (L.drop (j + 1)).reverse ++ [L[j]] := by
  rw [List.drop_eq_getElem_cons h, List.reverse_cons]
/-- The state of the first loop. -/
def DvSt (n : Nat) (w : World) (v3 v4 v5 : Value) (wr : World) : Prop :=
  ∃ k : Nat, v5 = .int .i64 k ∧ 1 ≤ k ∧ k ≤ n + 1 ∧ Hid (∀ i, 1 ≤ i → i < k → i * i ≤ n) ∧ wr.ownsRow w.heap.size 3 1 v3 (dvLo n k).length (cellsI (dvLo n k)) ∧ wr.ownsRow w.heap.size 3 1 v4 (dvHi n k).length (cellsI (dvHi n k)) ∧ Apart v3 v4 ∧ Apart v4 v3 ∧ Below w.heap.size w wr
/-- The state of the second loop: m of the quotients are left. -/
def DvSt2 (L H : List Int) (w : World) (v4 : Value) (v3 v6 : Value) (wr : World) : Prop :=
  ∃ m : Nat, v6 = .int .i64 ((m : Int) - 1) ∧ m ≤ H.length ∧ wr.ownsRow w.heap.size 3 1 v3 (L ++ (H.drop m).reverse).length (cellsI (L ++ (H.drop m).reverse)) ∧ wr.ownsRow w.heap.size 3 1 v4 H.length (cellsI H) ∧ Apart v3 v4 ∧ Below w.heap.size w wr
set_option maxRecDepth 100000 in
set_option maxHeartbeats 6400000 in
theorem divisors_any (n : Nat) (w : World) (hn : 1 ≤ n) (hb : n ≤ 100) :
    Calls Tryz.prog 21 #[.int .i64 n] w (RetI (divs n) w) := by
  obtain ⟨i0, hi, hz0, hz1, hz2⟩ := info_parts infoInt
  go_enter Tryz.func21, Tryz.ntmps21
  go_wp2
  go_loopw [3, 4, 5] (fun v3 v4 v5 wr => DvSt n w v3 v4 v5 wr) (fun _ _ v5 _ => n + 2 - (intOf v5).toNat)
  case atStart =>
    refine ⟨1, rfl, Nat.le_refl _, by omega, Lib.hid (fun i h1 h2 => by omega), ?_, ?_, .inr (by simp [Value.ownBlock]), .inr (by simp [Value.ownBlock]), (by repeat (first | with_reducible exact Below.refl _ _ | with_reducible assumption | with_reducible apply Below.drew | with_reducible apply below_drewN | (with_reducible apply below_setp; (first | omega | (simp <;> omega))) | (with_reducible apply below_allocp; (first | omega | (simp <;> omega))) | (with_reducible refine below_viap (by assumption) ?_ ?_; (first | omega | (simp <;> omega)))))⟩
    · rw [show dvLo n 1 = [] from rfl]; exact own_alloc (own_empty (Nat.le_refl _))
    · rw [show dvHi n 1 = [] from rfl]; exact own_emptyM (by simp) (by simp)
  case round =>
    obtain ⟨k, rfl, hk1, hkn, hsq, hown3, hown4, hapA, hapB, hbel⟩ := hrel
    have hz := hbel.size
    have hl3 := dvLo_len n k
    have hl4 := dvHi_len n k
    have hkk : (k : Int) * k ≤ 10001 * 10001 := Int.mul_le_mul (by omega) (by omega) (by omega) (by omega)
    have hkk0 : 0 ≤ (k : Int) * k := Int.mul_nonneg (by omega) (by omega)
    have hw1 : wrap64 ((k : Int) * k) = (k : Int) * k := IntWalk.wrap64_in _ (by omega)
    have hL := dvLo_next n k hk1
    have hH := dvHi_next n k hk1
    by_cases hle : k * k ≤ n
    · have hle' : (k : Int) * k ≤ (n : Int) := by rw [← Int.natCast_mul]; omega
      have hkle : k ≤ n := by
        have := Nat.mul_le_mul_left k hk1
        omega
      have hsq2 : Hid (∀ i, 1 ≤ i → i < k + 1 → i * i ≤ n) := Lib.hid (fun i h1 h2 => by
        by_cases he : i = k
        · rw [he]; exact hle
        · exact hsq.out i h1 (by omega))
      have hk0 : ((k : Int) == 0) = false := beq_eq_false_iff_ne.2 (by omega)
      have hk0' : ¬ (k : Int) = 0 := by omega
      have ht : (n : Int).tmod k = ((n % k : Nat) : Int) := rfl
      have hq : (n : Int).tdiv k = ((n / k : Nat) : Int) := rfl
      clear hkk hkk0
      by_cases hr : n % k = 0
      · have hr1 : (((n % k : Nat) : Int) != 0) = false := by rw [hr]; rfl
        have HL : Hid (dvLo n (k + 1) = dvLo n k ++ [(k : Int)]) := Lib.hid (by rw [hL, if_pos hr])
        clear hL
        by_cases he : k * k = n
        · have he' : ((k : Int) * k != (n : Int)) = false := by rw [← Int.natCast_mul, he]; simp
          have HH : Hid (dvHi n (k + 1) = dvHi n k) := Lib.hid (by rw [hH, if_neg (fun h => h.2 he), List.append_nil])
          clear hH hr he hle
          generalize dvLo n k = P at *
          generalize dvHi n k = Q at *
          generalize n % k = r at *
          generalize n / k = q at *
          go_wp2_with (at_builtin; refine wpList_append_own_at _ rfl (.tmp 20) (.tmp 22) 28 rfl w.heap.size 3 i0 _ 1 8 Tryz.underlying28 hi hz0 hz1 hz2 rfl (by decide) u3 P.length (cellsI P) rfl ?_ ⟨wr.heap.size, 0, none⟩ 1 1 [.int .i64 k] rfl rfl ?_ (one1 _) ?_ ?_ ?_ ?_; exact own_alloc hown3; exact cells1 (Blk.new_at (by simp)); (unfold maxLen; omega); omega; (simp <;> omega); intro x9 w9 hown9 hg9 _ hloc9)
          have hb9 : Below w.heap.size w w9 := below_grown (own_ge hown3) (by simp; omega) hg9 (by repeat (first | with_reducible exact Below.refl _ _ | with_reducible assumption | with_reducible apply Below.drew | with_reducible apply below_drewN | (with_reducible apply below_setp; (first | omega | (simp <;> omega))) | (with_reducible apply below_allocp; (first | omega | (simp <;> omega))) | (with_reducible refine below_viap (by assumption) ?_ ?_; (first | omega | (simp <;> omega)))))
          have ho9 := own_snocI HL.out hown9
          have hq1 := own_alloc (o := .cells #[.int .i64 k] 3) hown4
          have hq9 := hq1.kept hg9 hapA
          have ap1 := apart_next hapA hq1 (Nat.le_refl _) hloc9
          have ap2 := apart_back hapB hq1 (Nat.le_refl _) hloc9
          clear hg9 hown9 hown3 hown4 hloc9 hapA hapB hq1
          go_wp2
          go_roundw
          case rel => exact ⟨k + 1, by go_num, by omega, by omega, hsq2, ho9, by rw [HH.out]; exact hq9, ap1, ap2, hb9⟩
          case measure => (first | (simp [intOf]; done) | (simp [intOf]; omega))
        · have he' : ((k : Int) * k != (n : Int)) = true := by rw [bne_iff_ne, ← Int.natCast_mul]; omega
          have HH : Hid (dvHi n (k + 1) = dvHi n k ++ [((n / k : Nat) : Int)]) := Lib.hid (by rw [hH, if_pos ⟨hr, he⟩])
          clear hH hr he hle
          generalize dvLo n k = P at *
          generalize dvHi n k = Q at *
          generalize n % k = r at *
          have hqb : n / k ≤ 10000 := Nat.le_trans (Nat.div_le_self n k) (Nat.le_trans hb (by decide))
          generalize n / k = q at *
          have hw2 : wrap64 (q : Int) = (q : Int) := IntWalk.wrap64_in _ (by omega)
          go_upto_region 7 with (at_builtin; refine wpList_append_own_at _ rfl (.tmp 20) (.tmp 22) 28 rfl w.heap.size 3 i0 _ 1 8 Tryz.underlying28 hi hz0 hz1 hz2 rfl (by decide) u3 P.length (cellsI P) rfl ?_ ⟨wr.heap.size, 0, none⟩ 1 1 [.int .i64 k] rfl rfl ?_ (one1 _) ?_ ?_ ?_ ?_; exact own_alloc hown3; exact cells1 (Blk.new_at (by simp)); (unfold maxLen; omega); omega; (simp <;> omega); intro x9 w9 hown9 hg9 _ hloc9)
          have hz9 := hg9.size
          (try simp at hz9)
          have hb9 : Below w.heap.size w w9 := below_grown (own_ge hown3) (by simp; omega) hg9 (by repeat (first | with_reducible exact Below.refl _ _ | with_reducible assumption | with_reducible apply Below.drew | with_reducible apply below_drewN | (with_reducible apply below_setp; (first | omega | (simp <;> omega))) | (with_reducible apply below_allocp; (first | omega | (simp <;> omega))) | (with_reducible refine below_viap (by assumption) ?_ ?_; (first | omega | (simp <;> omega)))))
          have ho9 := own_snocI HL.out hown9
          have hq1 := own_alloc (o := .cells #[.int .i64 k] 3) hown4
          have hq9 := hq1.kept hg9 hapA
          have ap1 := apart_next hapA hq1 (Nat.le_refl _) hloc9
          have ap2 := apart_back hapB hq1 (Nat.le_refl _) hloc9
          clear hg9 hown9 hown3 hown4 hloc9 hapA hapB hq1
          have m1 : Q.length + 1 ≤ maxLen := by unfold maxLen; omega
          have m2 : (Q.length + 1) * 8 ≤ 140737488351232 := by omega
          have m3 : w.heap.size ≤ (w9.alloc (.cells #[.int .i64 q] 3)).heap.size := by simp <;> omega
          go_upto_region 8 with (fail)
          clear he' ht hr1 hw1 hle'
          obtain ⟨K, hKe⟩ : ∃ K : Int, (k : Int) = K := ⟨_, rfl⟩
          obtain ⟨M, hMe⟩ : ∃ M : Int, (n : Int) = M := ⟨_, rfl⟩
          rw [hKe] at hq hk0 hk0' ⊢
          rw [hMe] at hq ⊢
          have HKe := Lib.hid hKe
          have HMe := Lib.hid hMe
          clear hKe hMe
          go_upto_region 4 with (at_builtin; refine wpList_append_own_at _ rfl (.tmp 29) (.tmp 33) 28 rfl w.heap.size 3 i0 _ 1 8 Tryz.underlying28 hi hz0 hz1 hz2 rfl (by decide) u4 Q.length (cellsI Q) rfl ?_ ⟨w9.heap.size, 0, none⟩ 1 1 [.int .i64 q] rfl rfl ?_ (one1 _) ?_ ?_ ?_ ?_; exact own_alloc hq9; exact cells1 (Blk.new_at (by simp)); (first | exact m1 | (unfold maxLen; omega)); (first | exact m2 | omega); (first | exact m3 | (simp <;> omega)); intro x8 w8 hown8 hg8 _ hloc8)
          have hKe := HKe.out
          have hMe := HMe.out
          subst hKe
          subst hMe
          clear HKe HMe hq hk0 hk0'
          have hb8 : Below w.heap.size w w8 := below_grown (own_ge hq9) (by simp; omega) hg8 (by repeat (first | with_reducible exact Below.refl _ _ | with_reducible assumption | with_reducible apply Below.drew | with_reducible apply below_drewN | (with_reducible apply below_setp; (first | omega | (simp <;> omega))) | (with_reducible apply below_allocp; (first | omega | (simp <;> omega))) | (with_reducible refine below_viap (by assumption) ?_ ?_; (first | omega | (simp <;> omega)))))
          have ho8 := own_snocI HH.out hown8
          have hp1 := own_alloc (o := .cells #[.int .i64 q] 3) ho9
          have hp8 := hp1.kept hg8 ap2
          have ap3 := apart_next ap2 hp1 (Nat.le_refl _) hloc8
          have ap4 := apart_back ap1 hp1 (Nat.le_refl _) hloc8
          clear hg8 hown8 hq9 ho9 hloc8 ap1 ap2 hp1
          go_wp2
          go_roundw
          case rel => exact ⟨k + 1, by go_num, by omega, by omega, hsq2, hp8, ho8, ap4, ap3, hb8⟩
          case measure => (first | (simp [intOf]; done) | (simp [intOf]; omega))
      · have hr1 : (((n % k : Nat) : Int) != 0) = true := by rw [bne_iff_ne]; omega
        have HL : Hid (dvLo n (k + 1) = dvLo n k) := Lib.hid (by rw [hL, if_neg hr, List.append_nil])
        have HH : Hid (dvHi n (k + 1) = dvHi n k) := Lib.hid (by rw [hH, if_neg (fun h => hr h.1), List.append_nil])
        clear hL hH hr hle
        generalize n % k = r at *
        generalize n / k = q at *
        go_wp2
        go_roundw
        case rel => exact ⟨k + 1, by go_num, by omega, by omega, hsq2, by rw [HL.out]; exact hown3, by rw [HH.out]; exact hown4, hapA, hapB, hbel⟩
        case measure => (first | (simp [intOf]; done) | (simp [intOf]; omega))
    · have hle' : decide ((k : Int) * k ≤ (n : Int)) = false := decide_eq_false (by rw [← Int.natCast_mul]; omega)
      have HA := Lib.hid (dvAll_eq hn hb hk1 hsq.out (Nat.not_le.1 hle))
      have hlA : (dvAll n k).length ≤ 30000 := by unfold dvAll; rw [List.length_append, List.length_reverse]; omega
      have HA2 : Hid (dvAll n k = dvLo n k ++ (dvHi n k).reverse) := Lib.hid rfl
      clear hL hH hle hsq hapB hkk hkk0
      generalize dvAll n k = DA at *
      generalize dvLo n k = P at *
      generalize dvHi n k = Q at *
      obtain ⟨b4, c4, rfl⟩ := own_shape hown4
      go_wp2
      go_loopw [3, 6] (fun v3 v6 wr => DvSt2 P Q w (.slice b4 Q.length c4) v3 v6 wr) (fun _ v6 _ => (intOf v6 + 1).toNat)
      case atStart => exact ⟨Q.length, rfl, Nat.le_refl _, by rw [List.drop_length, List.reverse_nil, List.append_nil]; exact hown3, hown4, hapA, hbel⟩
      case round =>
        clear hown3 hown4 hapA hbel hz hw1 hle'
        obtain ⟨m, rfl, hm, hown3, hown4, hap, hbel⟩ := hrel
        have hz := hbel.size
        cases m with
        | zero =>
          rw [List.drop_zero, ← HA2.out] at hown3
          go_wp2
          go_ret
          rw [HA.out] at hown3
          exact ⟨_, rfl, hown3, hbel⟩
        | succ j =>
          have hjL : j < Q.length := by omega
          have hd := drop_rev hjL
          obtain ⟨g, hbg, lg, d1⟩ := own_elemI hown4 hjL
          subst hbg
          have HD : Hid (P ++ (Q.drop j).reverse = P ++ (Q.drop (j + 1)).reverse ++ [Q[j]]) := Lib.hid (by rw [hd, List.append_assoc])
          have hlP : (P ++ (Q.drop (j + 1)).reverse).length ≤ 30000 := by rw [List.length_append, List.length_reverse, List.length_drop]; omega
          clear hd
          generalize Q[j] = x at *
          generalize P ++ (Q.drop (j + 1)).reverse = P2 at *
          rw [show ((j + 1 : Nat) : Int) - 1 = (j : Int) by omega]
          have hj0 : (0 : Int) ≤ (j : Int) := by omega
          have ng : ¬ g = wr.heap.size := by omega
          go_wp2_with (at_builtin; refine wpList_append_own_at _ rfl (.tmp 42) (.tmp 47) 28 rfl w.heap.size 3 i0 _ 1 8 Tryz.underlying28 hi hz0 hz1 hz2 rfl (by decide) u3 P2.length (cellsI P2) rfl ?_ ⟨wr.heap.size, 0, none⟩ 1 1 [.int .i64 x] rfl rfl ?_ (one1 _) ?_ ?_ ?_ ?_; exact own_alloc hown3; exact cells1 (Blk.new_at (by simp)); (unfold maxLen; omega); omega; (simp <;> omega); intro x9 w9 hown9 hg9 _ hloc9)
          have hb9 : Below w.heap.size w w9 := below_grown (own_ge hown3) (by simp; omega) hg9 (by repeat (first | with_reducible exact Below.refl _ _ | with_reducible assumption | with_reducible apply Below.drew | with_reducible apply below_drewN | (with_reducible apply below_setp; (first | omega | (simp <;> omega))) | (with_reducible apply below_allocp; (first | omega | (simp <;> omega))) | (with_reducible refine below_viap (by assumption) ?_ ?_; (first | omega | (simp <;> omega)))))
          have ho9 := own_snocI HD.out hown9
          have hq1 := own_alloc (o := .cells #[.int .i64 x] 3) hown4
          have hq9 := hq1.kept hg9 hap
          have ap1 := apart_next hap hq1 (Nat.le_refl _) hloc9
          clear hg9 hown9 hown3 hown4 hloc9 hap hq1
          go_wp2
          go_roundw
          case rel => exact ⟨j, rfl, by omega, ho9, hq9, ap1, hb9⟩
          case measure => (first | (simp [intOf]; done) | (simp [intOf]; omega))
set_option maxRecDepth 100000 in
set_option maxHeartbeats 6400000 in
theorem nuDivs_any (n : Nat) (w : World) (hn : 1 ≤ n) (hb : n ≤ 100) :
    Calls Tryz.prog 47 #[.int .i64 n] w (RetI (divs n) w) := by
  obtain ⟨i0, hi, hz0, hz1, hz2⟩ := info_parts infoInt
  go_enter Tryz.func47, Tryz.ntmps47
  go_wp2
  go_loopw [3, 4, 5] (fun v3 v4 v5 wr => DvSt n w v3 v4 v5 wr) (fun _ _ v5 _ => n + 2 - (intOf v5).toNat)
  case atStart =>
    exact ⟨1, rfl, Nat.le_refl _, by omega, Lib.hid (fun i h1 h2 => by omega), ⟨rfl, .inl ⟨rfl, rfl⟩⟩, ⟨rfl, .inl ⟨rfl, rfl⟩⟩, .inl rfl, .inl rfl, (by repeat (first | with_reducible exact Below.refl _ _ | with_reducible assumption | with_reducible apply Below.drew | with_reducible apply below_drewN | (with_reducible apply below_setp; (first | omega | (simp <;> omega))) | (with_reducible apply below_allocp; (first | omega | (simp <;> omega))) | (with_reducible refine below_viap (by assumption) ?_ ?_; (first | omega | (simp <;> omega)))))⟩
  case round =>
    obtain ⟨k, rfl, hk1, hkn, hsq, hown3, hown4, hapA, hapB, hbel⟩ := hrel
    have hz := hbel.size
    have hl3 := dvLo_len n k
    have hl4 := dvHi_len n k
    have hkk : (k : Int) * k ≤ 10001 * 10001 := Int.mul_le_mul (by omega) (by omega) (by omega) (by omega)
    have hkk0 : 0 ≤ (k : Int) * k := Int.mul_nonneg (by omega) (by omega)
    have hw1 : wrap64 ((k : Int) * k) = (k : Int) * k := IntWalk.wrap64_in _ (by omega)
    have hL := dvLo_next n k hk1
    have hH := dvHi_next n k hk1
    by_cases hle : k * k ≤ n
    · have hle' : (k : Int) * k ≤ (n : Int) := by rw [← Int.natCast_mul]; omega
      have hkle : k ≤ n := by
        have := Nat.mul_le_mul_left k hk1
        omega
      have hsq2 : Hid (∀ i, 1 ≤ i → i < k + 1 → i * i ≤ n) := Lib.hid (fun i h1 h2 => by
        by_cases he : i = k
        · rw [he]; exact hle
        · exact hsq.out i h1 (by omega))
      have hk0 : ((k : Int) == 0) = false := beq_eq_false_iff_ne.2 (by omega)
      have hk0' : ¬ (k : Int) = 0 := by omega
      have ht : (n : Int).tmod k = ((n % k : Nat) : Int) := rfl
      have hq : (n : Int).tdiv k = ((n / k : Nat) : Int) := rfl
      clear hkk hkk0
      by_cases hr : n % k = 0
      · have hr1 : (((n % k : Nat) : Int) != 0) = false := by rw [hr]; rfl
        have HL : Hid (dvLo n (k + 1) = dvLo n k ++ [(k : Int)]) := Lib.hid (by rw [hL, if_pos hr])
        clear hL
        by_cases he : k * k = n
        · have he' : ¬ (k : Int) * k < (n : Int) := by rw [← Int.natCast_mul, he]; omega
          have HH : Hid (dvHi n (k + 1) = dvHi n k) := Lib.hid (by rw [hH, if_neg (fun h => h.2 he), List.append_nil])
          clear hH hr he hle
          generalize dvLo n k = P at *
          generalize dvHi n k = Q at *
          generalize n % k = r at *
          generalize n / k = q at *
          go_wp2_with (at_builtin; refine wpList_append_own_at _ rfl (.tmp 18) (.tmp 20) 28 rfl w.heap.size 3 i0 _ 1 8 Tryz.underlying28 hi hz0 hz1 hz2 rfl (by decide) u3 P.length (cellsI P) rfl ?_ ⟨wr.heap.size, 0, none⟩ 1 1 [.int .i64 k] rfl rfl ?_ (one1 _) ?_ ?_ ?_ ?_; exact own_alloc hown3; exact cells1 (Blk.new_at (by simp)); (unfold maxLen; omega); omega; (simp <;> omega); intro x9 w9 hown9 hg9 _ hloc9)
          have hb9 : Below w.heap.size w w9 := below_grown (own_ge hown3) (by simp; omega) hg9 (by repeat (first | with_reducible exact Below.refl _ _ | with_reducible assumption | with_reducible apply Below.drew | with_reducible apply below_drewN | (with_reducible apply below_setp; (first | omega | (simp <;> omega))) | (with_reducible apply below_allocp; (first | omega | (simp <;> omega))) | (with_reducible refine below_viap (by assumption) ?_ ?_; (first | omega | (simp <;> omega)))))
          have ho9 := own_snocI HL.out hown9
          have hq1 := own_alloc (o := .cells #[.int .i64 k] 3) hown4
          have hq9 := hq1.kept hg9 hapA
          have ap1 := apart_next hapA hq1 (Nat.le_refl _) hloc9
          have ap2 := apart_back hapB hq1 (Nat.le_refl _) hloc9
          clear hg9 hown9 hown3 hown4 hloc9 hapA hapB hq1
          go_wp2
          go_roundw
          case rel => exact ⟨k + 1, by go_num, by omega, by omega, hsq2, ho9, by rw [HH.out]; exact hq9, ap1, ap2, hb9⟩
          case measure => (first | (simp [intOf]; done) | (simp [intOf]; omega))
        · have he' : (k : Int) * k < (n : Int) := by rw [← Int.natCast_mul]; omega
          have HH : Hid (dvHi n (k + 1) = dvHi n k ++ [((n / k : Nat) : Int)]) := Lib.hid (by rw [hH, if_pos ⟨hr, he⟩])
          clear hH hr he hle
          generalize dvLo n k = P at *
          generalize dvHi n k = Q at *
          generalize n % k = r at *
          have hqb : n / k ≤ 10000 := Nat.le_trans (Nat.div_le_self n k) (Nat.le_trans hb (by decide))
          generalize n / k = q at *
          have hw2 : wrap64 (q : Int) = (q : Int) := IntWalk.wrap64_in _ (by omega)
          go_upto_region 7 with (at_builtin; refine wpList_append_own_at _ rfl (.tmp 18) (.tmp 20) 28 rfl w.heap.size 3 i0 _ 1 8 Tryz.underlying28 hi hz0 hz1 hz2 rfl (by decide) u3 P.length (cellsI P) rfl ?_ ⟨wr.heap.size, 0, none⟩ 1 1 [.int .i64 k] rfl rfl ?_ (one1 _) ?_ ?_ ?_ ?_; exact own_alloc hown3; exact cells1 (Blk.new_at (by simp)); (unfold maxLen; omega); omega; (simp <;> omega); intro x9 w9 hown9 hg9 _ hloc9)
          have hz9 := hg9.size
          (try simp at hz9)
          have hb9 : Below w.heap.size w w9 := below_grown (own_ge hown3) (by simp; omega) hg9 (by repeat (first | with_reducible exact Below.refl _ _ | with_reducible assumption | with_reducible apply Below.drew | with_reducible apply below_drewN | (with_reducible apply below_setp; (first | omega | (simp <;> omega))) | (with_reducible apply below_allocp; (first | omega | (simp <;> omega))) | (with_reducible refine below_viap (by assumption) ?_ ?_; (first | omega | (simp <;> omega)))))
          have ho9 := own_snocI HL.out hown9
          have hq1 := own_alloc (o := .cells #[.int .i64 k] 3) hown4
          have hq9 := hq1.kept hg9 hapA
          have ap1 := apart_next hapA hq1 (Nat.le_refl _) hloc9
          have ap2 := apart_back hapB hq1 (Nat.le_refl _) hloc9
          clear hg9 hown9 hown3 hown4 hloc9 hapA hapB hq1
          have m1 : Q.length + 1 ≤ maxLen := by unfold maxLen; omega
          have m2 : (Q.length + 1) * 8 ≤ 140737488351232 := by omega
          have m3 : w.heap.size ≤ (w9.alloc (.cells #[.int .i64 q] 3)).heap.size := by simp <;> omega
          go_upto_region 8 with (fail)
          clear he' ht hr1 hw1 hle'
          obtain ⟨K, hKe⟩ : ∃ K : Int, (k : Int) = K := ⟨_, rfl⟩
          obtain ⟨M, hMe⟩ : ∃ M : Int, (n : Int) = M := ⟨_, rfl⟩
          rw [hKe] at hq hk0 hk0' ⊢
          rw [hMe] at hq ⊢
          have HKe := Lib.hid hKe
          have HMe := Lib.hid hMe
          clear hKe hMe
          go_upto_region 4 with (at_builtin; refine wpList_append_own_at _ rfl (.tmp 27) (.tmp 31) 28 rfl w.heap.size 3 i0 _ 1 8 Tryz.underlying28 hi hz0 hz1 hz2 rfl (by decide) u4 Q.length (cellsI Q) rfl ?_ ⟨w9.heap.size, 0, none⟩ 1 1 [.int .i64 q] rfl rfl ?_ (one1 _) ?_ ?_ ?_ ?_; exact own_alloc hq9; exact cells1 (Blk.new_at (by simp)); (first | exact m1 | (unfold maxLen; omega)); (first | exact m2 | omega); (first | exact m3 | (simp <;> omega)); intro x8 w8 hown8 hg8 _ hloc8)
          have hKe := HKe.out
          have hMe := HMe.out
          subst hKe
          subst hMe
          clear HKe HMe hq hk0 hk0'
          have hb8 : Below w.heap.size w w8 := below_grown (own_ge hq9) (by simp; omega) hg8 (by repeat (first | with_reducible exact Below.refl _ _ | with_reducible assumption | with_reducible apply Below.drew | with_reducible apply below_drewN | (with_reducible apply below_setp; (first | omega | (simp <;> omega))) | (with_reducible apply below_allocp; (first | omega | (simp <;> omega))) | (with_reducible refine below_viap (by assumption) ?_ ?_; (first | omega | (simp <;> omega)))))
          have ho8 := own_snocI HH.out hown8
          have hp1 := own_alloc (o := .cells #[.int .i64 q] 3) ho9
          have hp8 := hp1.kept hg8 ap2
          have ap3 := apart_next ap2 hp1 (Nat.le_refl _) hloc8
          have ap4 := apart_back ap1 hp1 (Nat.le_refl _) hloc8
          clear hg8 hown8 hq9 ho9 hloc8 ap1 ap2 hp1
          go_wp2
          go_roundw
          case rel => exact ⟨k + 1, by go_num, by omega, by omega, hsq2, hp8, ho8, ap4, ap3, hb8⟩
          case measure => (first | (simp [intOf]; done) | (simp [intOf]; omega))
      · have hr1 : (((n % k : Nat) : Int) != 0) = true := by rw [bne_iff_ne]; omega
        have HL : Hid (dvLo n (k + 1) = dvLo n k) := Lib.hid (by rw [hL, if_neg hr, List.append_nil])
        have HH : Hid (dvHi n (k + 1) = dvHi n k) := Lib.hid (by rw [hH, if_neg (fun h => hr h.1), List.append_nil])
        clear hL hH hr hle
        generalize n % k = r at *
        generalize n / k = q at *
        go_wp2
        go_roundw
        case rel => exact ⟨k + 1, by go_num, by omega, by omega, hsq2, by rw [HL.out]; exact hown3, by rw [HH.out]; exact hown4, hapA, hapB, hbel⟩
        case measure => (first | (simp [intOf]; done) | (simp [intOf]; omega))
    · have hle' : decide ((k : Int) * k ≤ (n : Int)) = false := decide_eq_false (by rw [← Int.natCast_mul]; omega)
      have HA := Lib.hid (dvAll_eq hn hb hk1 hsq.out (Nat.not_le.1 hle))
      have hlA : (dvAll n k).length ≤ 30000 := by unfold dvAll; rw [List.length_append, List.length_reverse]; omega
      have HA2 : Hid (dvAll n k = dvLo n k ++ (dvHi n k).reverse) := Lib.hid rfl
      clear hL hH hle hsq hapB hkk hkk0
      generalize dvAll n k = DA at *
      generalize dvLo n k = P at *
      generalize dvHi n k = Q at *
      obtain ⟨b4, c4, rfl⟩ := own_shape hown4
      go_wp2
      go_loopw [3, 6] (fun v3 v6 wr => DvSt2 P Q w (.slice b4 Q.length c4) v3 v6 wr) (fun _ v6 _ => (intOf v6 + 1).toNat)
      case atStart => exact ⟨Q.length, rfl, Nat.le_refl _, by rw [List.drop_length, List.reverse_nil, List.append_nil]; exact hown3, hown4, hapA, hbel⟩
      case round =>
        clear hown3 hown4 hapA hbel hz hw1 hle'
        obtain ⟨m, rfl, hm, hown3, hown4, hap, hbel⟩ := hrel
        have hz := hbel.size
        cases m with
        | zero =>
          rw [List.drop_zero, ← HA2.out] at hown3
          go_wp2
          go_ret
          rw [HA.out] at hown3
          exact ⟨_, rfl, hown3, hbel⟩
        | succ j =>
          have hjL : j < Q.length := by omega
          have hd := drop_rev hjL
          obtain ⟨g, hbg, lg, d1⟩ := own_elemI hown4 hjL
          subst hbg
          have HD : Hid (P ++ (Q.drop j).reverse = P ++ (Q.drop (j + 1)).reverse ++ [Q[j]]) := Lib.hid (by rw [hd, List.append_assoc])
          have hlP : (P ++ (Q.drop (j + 1)).reverse).length ≤ 30000 := by rw [List.length_append, List.length_reverse, List.length_drop]; omega
          clear hd
          generalize Q[j] = x at *
          generalize P ++ (Q.drop (j + 1)).reverse = P2 at *
          rw [show ((j + 1 : Nat) : Int) - 1 = (j : Int) by omega]
          have hj0 : (0 : Int) ≤ (j : Int) := by omega
          have ng : ¬ g = wr.heap.size := by omega
          go_wp2_with (at_builtin; refine wpList_append_own_at _ rfl (.tmp 40) (.tmp 45) 28 rfl w.heap.size 3 i0 _ 1 8 Tryz.underlying28 hi hz0 hz1 hz2 rfl (by decide) u3 P2.length (cellsI P2) rfl ?_ ⟨wr.heap.size, 0, none⟩ 1 1 [.int .i64 x] rfl rfl ?_ (one1 _) ?_ ?_ ?_ ?_; exact own_alloc hown3; exact cells1 (Blk.new_at (by simp)); (unfold maxLen; omega); omega; (simp <;> omega); intro x9 w9 hown9 hg9 _ hloc9)
          have hb9 : Below w.heap.size w w9 := below_grown (own_ge hown3) (by simp; omega) hg9 (by repeat (first | with_reducible exact Below.refl _ _ | with_reducible assumption | with_reducible apply Below.drew | with_reducible apply below_drewN | (with_reducible apply below_setp; (first | omega | (simp <;> omega))) | (with_reducible apply below_allocp; (first | omega | (simp <;> omega))) | (with_reducible refine below_viap (by assumption) ?_ ?_; (first | omega | (simp <;> omega)))))
          have ho9 := own_snocI HD.out hown9
          have hq1 := own_alloc (o := .cells #[.int .i64 x] 3) hown4
          have hq9 := hq1.kept hg9 hap
          have ap1 := apart_next hap hq1 (Nat.le_refl _) hloc9
          clear hg9 hown9 hown3 hown4 hloc9 hap hq1
          go_wp2
          go_roundw
          case rel => exact ⟨j, rfl, by omega, ho9, hq9, ap1, hb9⟩
          case measure => (first | (simp [intOf]; done) | (simp [intOf]; omega))
theorem one_numF (w : World) (n : Int) (e : TypeId) : ∀ j, j < 1 → (w.alloc (.cells #[.int .i64 n] e)).cell? ⟨w.heap.size, j, none⟩ = some (.int .i64 ([n].getD j 0)) := by
  intro j hj
  match j, hj with
  | 0, _ => simp [go_sem]
theorem areNumF (n : Int) (e : TypeId) (w : World) :
    Calls Tryz.prog 24 #[.slice (some ⟨w.heap.size, 0, none⟩) 1 1] (w.alloc (.cells #[.int .i64 n] e)) fun e1 w' => e1 = .returned (.bool (isNum n)) ∧ w.alloc (.cells #[.int .i64 n] e) = w' := by
  have k := areNumbers_any w.heap.size 1 1 [n] (w.alloc (.cells #[.int .i64 n] e)) rfl (by omega) (one_numF w n e)
  rw [show [n].all isNum = isNum n by simp] at k
  exact k
set_option maxHeartbeats 1600000 in
theorem implDvs_any (n : Nat) (w : World) (hn : 1 ≤ n) (hb : n ≤ 100) :
    Calls Tryz.prog 8 #[.int .i64 n] w (fun e w' => ∃ v, e = .returned (.tuple #[v, .bool true]) ∧ w'.ownsRow w.heap.size 3 1 v (divs n).length (cellsI (divs n)) ∧ Below w.heap.size w w') := by
  have hN := Lib.hid (fun e w => areNumF n e w)
  rw [(isNum_iff (n : Int)).2 (by omega)] at hN
  have hA := Lib.hid (fun w => abs_any (n : Int) w (by omega) (by omega))
  rw [Int.natAbs_natCast] at hA
  have hD := Lib.hid (fun w => divisors_any n w hn hb)
  have h0 : ((n : Int) == 0) = false := beq_eq_false_iff_ne.2 (by omega)
  go_enter Tryz.func8, Tryz.ntmps8
  go_wp2_with (first
    | (go_at_call 24; (with_reducible refine (hN.out _ _).mono ?_); rintro e v1 ⟨rfl, rfl⟩)
    | (go_at_call 25; (with_reducible refine (hA.out _).mono ?_); rintro e v ⟨rfl, rfl⟩)
    | (go_at_call 21; (with_reducible refine (hD.out _).mono ?_); rintro e v2 ⟨vl, rfl, hol, hB2⟩; have hZ2 := hB2.size; (try simp at hZ2)))
  go_ret2
  exact ⟨_, rfl, own_base (by simp <;> omega) hol, (by repeat (first | with_reducible exact Below.refl _ _ | with_reducible assumption | with_reducible apply Below.drew | with_reducible apply below_drewN | (with_reducible apply below_setp; (first | omega | (simp <;> omega))) | (with_reducible apply below_allocp; (first | omega | (simp <;> omega))) | (with_reducible refine below_viap (by assumption) ?_ ?_; (first | omega | (simp <;> omega)))))⟩
end

section
open Go.RowKit

/-- The lattices with a given A. -/
def latB (n : Nat) (a : Int) (j : Nat) : List Fm := (List.range j).map fun b : Nat => ⟨a, (b : Int), (n : Int) / a⟩
/-- Those of the first k divisors. -/
def latA (n : Nat) (k : Nat) : List Fm := ((divs n).take k).flatMap fun a => latB n a a.toNat
def latL (n : Nat) : List Fm := (divs n).flatMap fun a => latB n a a.toNat
theorem latB_next (n : Nat) (a : Int) (j : Nat) : latB n a (j + 1) = latB n a j ++ [⟨a, (j : Int), (n : Int) / a⟩] := by
  unfold latB
  rw [List.range_succ, List.map_append]; rfl
theorem latA_next {n k : Nat} (h : k < (divs n).length) : latA n (k + 1) = latA n k ++ latB n (divs n)[k] (divs n)[k].toNat := by
  unfold latA
  rw [List.take_succ_eq_append_getElem h, List.flatMap_append]
  simp
theorem latA_all (n : Nat) : latA n (divs n).length = latL n := by unfold latA latL; rw [List.take_length]
theorem latB_len (n : Nat) (a : Int) (j : Nat) : (latB n a j).length = j := by unfold latB; rw [List.length_map, List.length_range]
theorem latA_len {n : Nat} (hb : n ≤ 100) : ∀ k, k ≤ (divs n).length → (latA n k).length ≤ 100 * k
  | 0, _ => by unfold latA; simp
  | k + 1, hk => by
    have ih := latA_len hb k (by omega)
    rw [latA_next (by omega), List.length_append, latB_len]
    have := divs_mem hb (List.getElem_mem (show k < (divs n).length by omega))
    omega
/-- Lattices and a flag, in new memory. -/
def RetLt (L : List Fm) (ok : Bool) (w : World) (e : Ending) (w' : World) : Prop := ∃ v, e = .returned (.tuple #[v, .bool ok]) ∧ w'.ownsRow w.heap.size 32 3 v L.length (cellsF L) ∧ Below w.heap.size w w'
theorem infoLt : (Tryz.prog.info? 32).map (fun i => (i.zero, i.size, i.bytes)) = some (some (.agg #[.int .i64 0, .int .i64 0, .int .i64 0]), 3, 24) := by kernel_rfl
theorem own_emptyL {w : World} {B g : Nat} {e : TypeId} {sz : Nat} (hg : g = w.heap.size) (hB : B ≤ w.heap.size) : (w.alloc (.cells #[] e)).ownsRow B e sz (.slice (some ⟨g, 0, none⟩) 0 0) 0 [] := by
  subst hg; exact own_empty hB
theorem apart_own {w : World} {B B2 n n2 sz sz2 : Nat} {e e2 : TypeId} {v vl : Value} {xs xs2 : List Value} (h : w.ownsRow B e sz v n xs) {w2 : World} (h2 : w2.ownsRow B2 e2 sz2 vl n2 xs2) (hB : w.heap.size ≤ B2) : Apart v vl := by
  unfold Apart
  cases h3 : vl.ownBlock with
  | none => exact .inl rfl
  | some b =>
    right
    intro he
    have k1 := own_ge h2 b h3
    have k2 := own_lt h b he.symm
    omega
set_option maxRecDepth 100000 in
set_option maxHeartbeats 6400000 in
theorem implSL_any (n : Nat) (w : World) (hn : 1 ≤ n) (hb : n ≤ 100) : Calls Tryz.prog 6 #[.int .i64 n] w (RetLt (latL n) true w) := by
  obtain ⟨i0, hi, hz0, hz1, hz2⟩ := info_parts infoLt
  have hD := Lib.hid (fun w => divisors_any n w hn hb)
  unfold RetI at hD
  have hdl := Lib.hid (divs_len hb)
  have hdm := Lib.hid (fun x h => divs_mem (x := x) hb h)
  have hln := Lib.hid (latA_len hb)
  have hnx := Lib.hid (fun k h => latA_next (n := n) (k := k) h)
  have hall := Lib.hid (latA_all n)
  have h1 : ¬ (n : Int) < 1 := by omega
  have h2 : ¬ (100 : Int) < (n : Int) := by omega
  have lz : latA n 0 = [] := by unfold latA; rw [List.take_zero]; rfl
  generalize latA n = LA at *
  generalize latL n = LL at *
  generalize divs n = DV at *
  go_enter Tryz.func6, Tryz.ntmps6
  go_wp2_with (go_at_call 21; refine (hD.out _).mono ?_; rintro e v1 ⟨vd, rfl, hod, hB1⟩; have hZ1 := hB1.size; (try simp at hZ1); obtain ⟨bd, cd, rfl⟩ := own_shape hod)
  have hb1 : Below w.heap.size w v1 := (by repeat (first | with_reducible exact Below.refl _ _ | with_reducible assumption | with_reducible apply Below.drew | with_reducible apply below_drewN | (with_reducible apply below_setp; (first | omega | (simp <;> omega))) | (with_reducible apply below_allocp; (first | omega | (simp <;> omega))) | (with_reducible refine below_viap (by assumption) ?_ ?_; (first | omega | (simp <;> omega)))))
  have hoe := own_call hB1 (own_emptyL (e := 32) (sz := 3) (B := w.heap.size) rfl (Nat.le_refl _))
  have hol1 := hoe
  have hap1 := apart_own (own_emptyL (w := w) (e := 32) (sz := 3) (B := w.heap.size) rfl (Nat.le_refl _)) hod (by simp)
  have hod1 : v1.ownsRow w.heap.size 3 1 (.slice bd DV.length cd) DV.length (cellsI DV) := own_base (by first | exact Nat.le_refl _ | (simp; done) | (simp <;> omega)) hod
  clear hod hB1 hD h1 h2
  go_loopw [4, 19] (fun vl vi wr => ∃ k : Nat, vi = .int .i64 k ∧ k ≤ DV.length ∧ wr.ownsRow w.heap.size 32 3 vl (LA k).length (cellsF (LA k)) ∧ wr.ownsRow w.heap.size 3 1 (.slice bd DV.length cd) DV.length (cellsI DV) ∧ Apart vl (.slice bd DV.length cd) ∧ Below w.heap.size w wr) (fun _ vi _ => DV.length - (intOf vi).toNat)
  case atStart => exact ⟨0, rfl, Nat.zero_le _, by rw [lz]; exact hol1, hod1, hap1, hb1⟩
  case round =>
    clear hol1 hod1 hap1 hb1 hZ1 lz
    obtain ⟨k, rfl, hk, hown, hod, hap, hbel⟩ := hrel
    have hz := hbel.size
    by_cases hlt : k < DV.length
    · obtain ⟨g, hbg, lg, d1⟩ := own_elemI hod hlt
      subst hbg
      obtain ⟨x1, x2, x3⟩ := hdm.out _ (List.getElem_mem hlt)
      have HN := Lib.hid (hnx.out k hlt)
      have hlk := Lib.hid (hln.out k hk)
      have hd100 := hdl.out
      generalize DV[k] = x at *
      obtain ⟨q, hq⟩ : ∃ q : Int, (n : Int) / x = q := ⟨_, rfl⟩
      have hqd : (n : Int).tdiv x = q := by rw [Int.tdiv_eq_ediv_of_nonneg (by omega), hq]
      have HQ := Lib.hid hq
      have hx0 : (x == 0) = false := beq_eq_false_iff_ne.2 (by omega)
      have hx0' : ¬ x = 0 := by omega
      have hwq : wrap64 q = q := IntWalk.wrap64_in _ (by rw [hq] at x3; have := Int.ediv_nonneg (show (0 : Int) ≤ n by omega) (show 0 ≤ x by omega); have := Int.ediv_le_self x (show (0 : Int) ≤ n by omega); omega)
      clear hq x3
      have HX := Lib.hid (show (x.toNat : Int) = x by omega)
      have hxn := Lib.hid (show x.toNat ≤ 100 by omega)
      go_wp2
      obtain ⟨wo, rfl⟩ : ∃ wo : World, wo = wr := ⟨_, rfl⟩
      go_loopw [4, 7] (fun vl vi wr => ∃ j : Nat, vi = .int .i64 j ∧ j ≤ x.toNat ∧ wr.ownsRow w.heap.size 32 3 vl (LA k ++ latB n x j).length (cellsF (LA k ++ latB n x j)) ∧ wr.ownsRow w.heap.size 3 1 (.slice (some ⟨g, 0, none⟩) DV.length cd) DV.length (cellsI DV) ∧ Apart vl (.slice (some ⟨g, 0, none⟩) DV.length cd) ∧ Below w.heap.size w wr) (fun _ vi _ => x.toNat - (intOf vi).toNat)
      case atStart => exact ⟨0, rfl, Nat.zero_le _, by rw [show latB n x 0 = [] from rfl, List.append_nil]; exact hown, hod, hap, hbel⟩
      case round =>
        clear hown hod hap hbel hz lg d1
        obtain ⟨j, rfl, hj, hown, hod, hap, hbel⟩ := hrel
        have hz := hbel.size
        by_cases hjt : j < x.toNat
        · have kJ : (j : Int) < x := by have := HX.out; omega
          have HL : Hid (LA k ++ latB n x (j + 1) = (LA k ++ latB n x j) ++ [⟨x, (j : Int), q⟩]) := Lib.hid (by rw [latB_next, HQ.out, List.append_assoc])
          have hll : Hid ((LA k ++ latB n x j).length ≤ 10100) := Lib.hid (by rw [List.length_append, latB_len]; have := hlk.out; have := hxn.out; omega)
          have hjb : j ≤ 100 := by have := hxn.out; omega
          generalize LA k ++ latB n x j = P at *
          have hlb := hll.out
          have m1 : P.length + 1 ≤ maxLen := by unfold maxLen; omega
          have m2 : (P.length + 1) * 24 ≤ 140737488355328 := by omega
          clear hlb
          go_wp2_with (at_builtin; refine wpList_append_own_at _ rfl (.tmp 28) (.tmp 35) 25 rfl w.heap.size 32 i0 _ 3 24 Tryz.underlying25 hi hz0 hz1 hz2 rfl (by decide) u4 P.length (cellsF P) rfl ?_ ⟨wr.heap.size, 0, none⟩ 1 1 [.int .i64 x, .int .i64 j, .int .i64 q] rfl rfl ?_ (one3 _ _ _) ?_ ?_ ?_ ?_; exact own_alloc hown; exact cells3 (Blk.new_at (by simp)); exact m1; exact m2; (simp <;> omega); intro x9 w9 hown9 hg9 _ hloc9)
          have hb9 : Below w.heap.size w w9 := below_grown (own_ge hown) (by simp <;> omega) hg9 (by repeat (first | with_reducible exact Below.refl _ _ | with_reducible assumption | with_reducible apply Below.drew | with_reducible apply below_drewN | (with_reducible apply below_setp; (first | omega | (simp <;> omega))) | (with_reducible apply below_allocp; (first | omega | (simp <;> omega))) | (with_reducible refine below_viap (by assumption) ?_ ?_; (first | omega | (simp <;> omega)))))
          have ho9 := own_snoc (f := ⟨x, (j : Int), q⟩) HL.out hown9
          have hd8 := own_alloc (o := .cells #[.int .i64 x, .int .i64 j, .int .i64 q] 32) hod
          have hd9 := hd8.kept hg9 hap
          have ap9 := apart_next hap hd8 (Nat.le_refl _) hloc9
          clear hg9 hown9 hown hod hd8 hloc9 hap m1 m2
          go_wp2
          go_roundw
          case rel => exact ⟨j + 1, by go_num, hjt, ho9, hd9, ap9, hb9⟩
          case measure => (first | (simp [intOf]; done) | (simp [intOf]; omega))
        · obtain rfl : j = x.toNat := by omega
          rw [← HN.out] at hown
          have kJ : ¬ (x.toNat : Int) < x := by have := HX.out; omega
          have hkb : k ≤ 100 := by omega
          rw [HX.out] at kJ ⊢
          go_wp2
          go_roundw
          case rel => exact ⟨k + 1, by go_num, hlt, hown, hod, hap, hbel⟩
          case measure => (first | (simp [intOf]; done) | (simp [intOf]; omega))
    · have ek : k = DV.length := by omega
      subst ek
      rw [hall.out] at hown
      go_wp2
      go_ret2
      exact ⟨_, rfl, hown, hbel⟩
theorem implSL_no (n : Int) (w : World) (h : ¬ (1 ≤ n ∧ n ≤ 100)) : Calls Tryz.prog 6 #[.int .i64 n] w (RetLt [] false w) := by
  by_cases h1 : n < 1
  · clear h
    go_enter Tryz.func6, Tryz.ntmps6
    go_wp2
    go_ret2
    exact ⟨_, rfl, own_emptyL rfl (Nat.le_refl _), (by repeat (first | with_reducible exact Below.refl _ _ | with_reducible assumption | with_reducible apply Below.drew | with_reducible apply below_drewN | (with_reducible apply below_setp; (first | omega | (simp <;> omega))) | (with_reducible apply below_allocp; (first | omega | (simp <;> omega))) | (with_reducible refine below_viap (by assumption) ?_ ?_; (first | omega | (simp <;> omega)))))⟩
  · have h2 : 100 < n := by omega
    clear h
    go_enter Tryz.func6, Tryz.ntmps6
    go_wp2
    go_ret2
    exact ⟨_, rfl, own_emptyL rfl (Nat.le_refl _), (by repeat (first | with_reducible exact Below.refl _ _ | with_reducible assumption | with_reducible apply Below.drew | with_reducible apply below_drewN | (with_reducible apply below_setp; (first | omega | (simp <;> omega))) | (with_reducible apply below_allocp; (first | omega | (simp <;> omega))) | (with_reducible refine below_viap (by assumption) ?_ ?_; (first | omega | (simp <;> omega)))))⟩
set_option maxRecDepth 100000 in
set_option maxHeartbeats 6400000 in
theorem laAll_any (n : Nat) (w : World) (hn : 1 ≤ n) (hb : n ≤ 100) : Calls Tryz.prog 23 #[.int .i64 n] w (fun e w' => ∃ v, e = .returned v ∧ w'.ownsRow w.heap.size 32 3 v (latL n).length (cellsF (latL n)) ∧ Below w.heap.size w w') := by
  obtain ⟨i0, hi, hz0, hz1, hz2⟩ := info_parts infoLt
  have hD := Lib.hid (fun w => nuDivs_any n w hn hb)
  unfold RetI at hD
  have hdl := Lib.hid (divs_len hb)
  have hdm := Lib.hid (fun x h => divs_mem (x := x) hb h)
  have hln := Lib.hid (latA_len hb)
  have hnx := Lib.hid (fun k h => latA_next (n := n) (k := k) h)
  have hall := Lib.hid (latA_all n)
  have lz : latA n 0 = [] := by unfold latA; rw [List.take_zero]; rfl
  generalize latA n = LA at *
  generalize latL n = LL at *
  generalize divs n = DV at *
  go_enter Tryz.func23, Tryz.ntmps23
  go_wp2_with (go_at_call 47; refine (hD.out _).mono ?_; rintro e v1 ⟨vd, rfl, hod, hB1⟩; have hZ1 := hB1.size; (try simp at hZ1); obtain ⟨bd, cd, rfl⟩ := own_shape hod)
  have hb1 : Below w.heap.size w v1 := (by repeat (first | with_reducible exact Below.refl _ _ | with_reducible assumption | with_reducible apply Below.drew | with_reducible apply below_drewN | (with_reducible apply below_setp; (first | omega | (simp <;> omega))) | (with_reducible apply below_allocp; (first | omega | (simp <;> omega))) | (with_reducible refine below_viap (by assumption) ?_ ?_; (first | omega | (simp <;> omega)))))
  have hol1 : v1.ownsRow w.heap.size 32 3 (.slice none 0 0) 0 [] := ⟨rfl, .inl ⟨rfl, rfl⟩⟩
  have hap1 : Apart (.slice none 0 0) (.slice bd DV.length cd) := by
    unfold Apart
    cases bd with
    | none => exact .inl rfl
    | some b => right; intro he; cases he
  have hod1 : v1.ownsRow w.heap.size 3 1 (.slice bd DV.length cd) DV.length (cellsI DV) := own_base (by first | exact Nat.le_refl _ | (simp; done) | (simp <;> omega)) hod
  clear hod hB1 hD
  go_loopw [3, 10] (fun vl vi wr => ∃ k : Nat, vi = .int .i64 k ∧ k ≤ DV.length ∧ wr.ownsRow w.heap.size 32 3 vl (LA k).length (cellsF (LA k)) ∧ wr.ownsRow w.heap.size 3 1 (.slice bd DV.length cd) DV.length (cellsI DV) ∧ Apart vl (.slice bd DV.length cd) ∧ Below w.heap.size w wr) (fun _ vi _ => DV.length - (intOf vi).toNat)
  case atStart => exact ⟨0, rfl, Nat.zero_le _, by rw [lz]; exact hol1, hod1, hap1, hb1⟩
  case round =>
    clear hol1 hod1 hap1 hb1 hZ1 lz
    obtain ⟨k, rfl, hk, hown, hod, hap, hbel⟩ := hrel
    have hz := hbel.size
    by_cases hlt : k < DV.length
    · obtain ⟨g, hbg, lg, d1⟩ := own_elemI hod hlt
      subst hbg
      obtain ⟨x1, x2, x3⟩ := hdm.out _ (List.getElem_mem hlt)
      have HN := Lib.hid (hnx.out k hlt)
      have hlk := Lib.hid (hln.out k hk)
      have hd100 := hdl.out
      generalize DV[k] = x at *
      obtain ⟨q, hq⟩ : ∃ q : Int, (n : Int) / x = q := ⟨_, rfl⟩
      have hqd : (n : Int).tdiv x = q := by rw [Int.tdiv_eq_ediv_of_nonneg (by omega), hq]
      have HQ := Lib.hid hq
      have hx0 : (x == 0) = false := beq_eq_false_iff_ne.2 (by omega)
      have hx0' : ¬ x = 0 := by omega
      have hwq : wrap64 q = q := IntWalk.wrap64_in _ (by rw [hq] at x3; have := Int.ediv_nonneg (show (0 : Int) ≤ n by omega) (show 0 ≤ x by omega); have := Int.ediv_le_self x (show (0 : Int) ≤ n by omega); omega)
      clear hq x3
      have HX := Lib.hid (show (x.toNat : Int) = x by omega)
      have hxn := Lib.hid (show x.toNat ≤ 100 by omega)
      go_wp2
      obtain ⟨wo, rfl⟩ : ∃ wo : World, wo = wr := ⟨_, rfl⟩
      go_loopw [3, 6] (fun vl vi wr => ∃ j : Nat, vi = .int .i64 j ∧ j ≤ x.toNat ∧ wr.ownsRow w.heap.size 32 3 vl (LA k ++ latB n x j).length (cellsF (LA k ++ latB n x j)) ∧ wr.ownsRow w.heap.size 3 1 (.slice (some ⟨g, 0, none⟩) DV.length cd) DV.length (cellsI DV) ∧ Apart vl (.slice (some ⟨g, 0, none⟩) DV.length cd) ∧ Below w.heap.size w wr) (fun _ vi _ => x.toNat - (intOf vi).toNat)
      case atStart => exact ⟨0, rfl, Nat.zero_le _, by rw [show latB n x 0 = [] from rfl, List.append_nil]; exact hown, hod, hap, hbel⟩
      case round =>
        clear hown hod hap hbel hz lg d1
        obtain ⟨j, rfl, hj, hown, hod, hap, hbel⟩ := hrel
        have hz := hbel.size
        by_cases hjt : j < x.toNat
        · have kJ : (j : Int) < x := by have := HX.out; omega
          have HL : Hid (LA k ++ latB n x (j + 1) = (LA k ++ latB n x j) ++ [⟨x, (j : Int), q⟩]) := Lib.hid (by rw [latB_next, HQ.out, List.append_assoc])
          have hll : Hid ((LA k ++ latB n x j).length ≤ 10100) := Lib.hid (by rw [List.length_append, latB_len]; have := hlk.out; have := hxn.out; omega)
          have hjb : j ≤ 100 := by have := hxn.out; omega
          generalize LA k ++ latB n x j = P at *
          have hlb := hll.out
          have m1 : P.length + 1 ≤ maxLen := by unfold maxLen; omega
          have m2 : (P.length + 1) * 24 ≤ 140737488355328 := by omega
          clear hlb
          go_wp2_with (at_builtin; refine wpList_append_own_at _ rfl (.tmp 19) (.tmp 26) 25 rfl w.heap.size 32 i0 _ 3 24 Tryz.underlying25 hi hz0 hz1 hz2 rfl (by decide) u3 P.length (cellsF P) rfl ?_ ⟨wr.heap.size, 0, none⟩ 1 1 [.int .i64 x, .int .i64 j, .int .i64 q] rfl rfl ?_ (one3 _ _ _) ?_ ?_ ?_ ?_; exact own_alloc hown; exact cells3 (Blk.new_at (by simp)); exact m1; exact m2; (simp <;> omega); intro x9 w9 hown9 hg9 _ hloc9)
          have hb9 : Below w.heap.size w w9 := below_grown (own_ge hown) (by simp <;> omega) hg9 (by repeat (first | with_reducible exact Below.refl _ _ | with_reducible assumption | with_reducible apply Below.drew | with_reducible apply below_drewN | (with_reducible apply below_setp; (first | omega | (simp <;> omega))) | (with_reducible apply below_allocp; (first | omega | (simp <;> omega))) | (with_reducible refine below_viap (by assumption) ?_ ?_; (first | omega | (simp <;> omega)))))
          have ho9 := own_snoc (f := ⟨x, (j : Int), q⟩) HL.out hown9
          have hd8 := own_alloc (o := .cells #[.int .i64 x, .int .i64 j, .int .i64 q] 32) hod
          have hd9 := hd8.kept hg9 hap
          have ap9 := apart_next hap hd8 (Nat.le_refl _) hloc9
          clear hg9 hown9 hown hod hd8 hloc9 hap m1 m2
          go_wp2
          go_roundw
          case rel => exact ⟨j + 1, by go_num, hjt, ho9, hd9, ap9, hb9⟩
          case measure => (first | (simp [intOf]; done) | (simp [intOf]; omega))
        · obtain rfl : j = x.toNat := by omega
          rw [← HN.out] at hown
          have kJ : ¬ (x.toNat : Int) < x := by have := HX.out; omega
          have hkb : k ≤ 100 := by omega
          rw [HX.out] at kJ ⊢
          go_wp2
          go_roundw
          case rel => exact ⟨k + 1, by go_num, hlt, hown, hod, hap, hbel⟩
          case measure => (first | (simp [intOf]; done) | (simp [intOf]; omega))
    · have ek : k = DV.length := by omega
      subst ek
      rw [hall.out] at hown
      go_wp2
      go_ret
      exact ⟨_, rfl, hown, hbel⟩
theorem specSL_any (n : Nat) (w : World) (hn : 1 ≤ n) (hb : n ≤ 100) : Calls Tryz.prog 7 #[.int .i64 n] w (RetLt (latL n) true w) := by
  have hI := Lib.hid (fun w => l1In_any (n : Int) 1 100 w)
  rw [show (decide ((1 : Int) ≤ (n : Int)) && decide ((n : Int) ≤ 100)) = true by simp; omega] at hI
  have hA := Lib.hid (fun w => laAll_any n w hn hb)
  go_enter Tryz.func7, Tryz.ntmps7
  go_wp2_with (first | (go_at_call 22; (with_reducible refine (hI.out _).mono ?_); rintro e v ⟨rfl, rfl⟩) | (go_at_call 23; refine (hA.out _).mono ?_; rintro e v1 ⟨v, rfl, ho, hB1⟩; have hZ1 := hB1.size))
  go_ret2
  exact ⟨_, rfl, ho, hB1⟩
theorem specSL_no (n : Int) (w : World) (h : ¬ (1 ≤ n ∧ n ≤ 100)) : Calls Tryz.prog 7 #[.int .i64 n] w (RetLt [] false w) := by
  have hI := Lib.hid (fun w => l1In_any n 1 100 w)
  rw [show (decide (1 ≤ n) && decide (n ≤ 100)) = false by simp; omega] at hI
  go_enter Tryz.func7, Tryz.ntmps7
  go_wp2_with (go_at_call 22; (with_reducible refine (hI.out _).mono ?_); rintro e v ⟨rfl, rfl⟩)
  go_ret2
  exact ⟨_, rfl, ⟨rfl, .inl ⟨rfl, rfl⟩⟩, (by repeat (first | with_reducible exact Below.refl _ _ | with_reducible assumption | with_reducible apply Below.drew | with_reducible apply below_drewN | (with_reducible apply below_setp; (first | omega | (simp <;> omega))) | (with_reducible apply below_allocp; (first | omega | (simp <;> omega))) | (with_reducible refine below_viap (by assumption) ?_ ?_; (first | omega | (simp <;> omega)))))⟩
end

section
open Go.RowKit

set_option maxHeartbeats 1600000 in
theorem latIndex_any (A B D k : Int) (w : World) (V : LaV A B D) (hk : A * D = k) : Calls Tryz.prog 9 #[.agg #[.int .i64 A, .int .i64 B, .int .i64 D]] w fun e w' => e = .returned (.tuple #[.int .i64 k, .bool true]) ∧ Below w.heap.size w w' := by
  have hL := Lib.hid (fun w => isLattice_any A B D w)
  rw [laB_iff.2 V] at hL
  have v1 := V.a1; have v2 := V.a2; have v3 := V.d1; have v4 := V.d2
  have m1 := mul_bd (a := A) (x := D) (A := 1000) (X := 1000) (by omega) (by omega) (by omega) (by omega)
  have hw : wrap64 (A * D) = k := by rw [IntWalk.wrap64_in _ (by omega)]; exact hk
  clear m1 v1 v2 v3 v4 hk
  go_enter Tryz.func9, Tryz.ntmps9
  go_wp2_with (go_at_call 26; (with_reducible refine (hL.out _).mono ?_); rintro e v1 ⟨rfl, hB1⟩; have hZ1 := hB1.size; (try simp at hZ1); (try have zl1 : w.heap.size < v1.heap.size := by omega); (try have ze1 : w.heap.size ≤ v1.heap.size := by omega); (try have zn1 : ¬ w.heap.size = v1.heap.size := by omega); (try have zm1 : ¬ v1.heap.size = w.heap.size := by omega); have hL1 : Blk v1 (w.heap.size) 32 #[.int .i64 A, .int .i64 B, .int .i64 D] := Blk.call (by (repeat (first | with_reducible assumption | (with_reducible apply Blk.new_at; (first | rfl | (simp; done))) | with_reducible apply Blk.store3 | with_reducible apply Blk.store4 | (with_reducible apply Blk.farp; (first | omega | (simp <;> omega))) | with_reducible apply Blk.allocp | with_reducible apply Blk.drew | with_reducible apply Blk.drewN))) hB1; have cL1 := hL1.cell; have fL1 := hL1.frozen; have lL1 := hL1.lt; have mL1 := Nat.ne_of_gt lL1; have nL1 := Nat.ne_of_lt lL1)
  go_ret2
  exact ⟨by rw [← hw]; rfl, (by repeat (first | with_reducible exact Below.refl _ _ | with_reducible assumption | with_reducible apply Below.drew | with_reducible apply below_drewN | (with_reducible apply below_setp; (first | omega | (simp <;> omega))) | (with_reducible apply below_allocp; (first | omega | (simp <;> omega))) | (with_reducible refine below_viap (by assumption) ?_ ?_; (first | omega | (simp <;> omega)))))⟩
set_option maxHeartbeats 1600000 in
theorem latHas_any (A B D u v x y : Int) (w : World) (V : LaV A B D) (hx : x = u * A + v * B) (hy : y = v * D) (b1 : -10000 ≤ x ∧ x ≤ 10000) (b2 : -10000 ≤ y ∧ y ≤ 10000) :
    Calls Tryz.prog 45 #[.agg #[.int .i64 A, .int .i64 B, .int .i64 D], .int .i64 x, .int .i64 y] w fun e w' => e = .returned (.bool true) ∧ Below w.heap.size w w' := by
  have v1 := V.a1; have v2 := V.a2; have v3 := V.d1; have v4 := V.d2; have v5 := V.b0; have v6 := V.b2
  have d0 : (D == 0) = false := beq_eq_false_iff_ne.2 (by omega)
  have d0' : ¬ D = 0 := by omega
  have a0 : (A == 0) = false := beq_eq_false_iff_ne.2 (by omega)
  have a0' : ¬ A = 0 := by omega
  have e1 : y.tmod D = 0 := by rw [hy]; exact Int.mul_tmod_left _ _
  have e2 : y.tdiv D = v := by rw [hy]; exact Int.mul_tdiv_cancel _ d0'
  have hv : -10000 ≤ v ∧ v ≤ 10000 := by
    have hvD : v * D ≤ 10000 ∧ -10000 ≤ v * D := by omega
    constructor
    · apply Int.not_lt.1; intro hl
      have := Int.mul_le_mul (show (10001 : Int) ≤ -v by omega) v3 (by omega) (by omega)
      rw [Int.neg_mul] at this
      omega
    · apply Int.not_lt.1; intro hl
      have := Int.mul_le_mul (show (10001 : Int) ≤ v by omega) v3 (by omega) (by omega)
      omega
  have m1 := mul_bd (a := v) (x := B) (A := 10000) (X := 1000) (by omega) (by omega) (by omega) (by omega)
  have HE : Hid (((IntKind.i64.wrap (x - IntKind.i64.wrap (IntKind.i64.wrap v * B))).tmod A == 0) = true) := Lib.hid (by
    rw [IntWalk.i64_in v (by omega), IntWalk.i64_in (v * B) (by omega), IntWalk.i64_in (x - v * B) (by omega), hx, show u * A + v * B - v * B = u * A by omega, Int.mul_tmod_left]; rfl)
  clear m1 hv v1 v2 v3 v4 v5 v6 hx hy b1 b2
  go_enter Tryz.func45, Tryz.ntmps45
  go_wp2
  refine wp_region_calm 21 (Below (w.heap.size + 1) _) (by kernel_rfl) (by kernel_rfl) ((Below.refl _ _).drew) ?_
  simp only [List.take_succ_cons, List.take_zero, List.drop_succ_cons, List.drop_zero]
  repeat (first | (apply wpCalm_go; go_simp; (intro w' hw' hcc hff; go_simp; first | exact rfl | fail); (intro K hK; go_simp; refine hK _ ?_; clear hK K)) | (apply wpCalm_skip; go_simp; (try (focus (simp [undef]; done))); (intro K hK; go_simp; refine hK _ ?_; clear hK K)))
  refine wpCalm_nil ?_
  intro w1 hw1
  have hcc := (calm_cells hw1).1
  have hff := (calm_cells hw1).2
  have hss := calm_size hw1
  have hsz := hw1.size
  (try simp at hsz)
  have hb1 : Below w.heap.size w w1 := below_via (by repeat (first | with_reducible exact Below.refl _ _ | with_reducible assumption | with_reducible apply Below.drew | with_reducible apply below_drewN | (with_reducible apply below_setp; (first | omega | (simp <;> omega))) | (with_reducible apply below_allocp; (first | omega | (simp <;> omega))) | (with_reducible refine below_viap (by assumption) ?_ ?_; (first | omega | (simp <;> omega))))) hw1 (by omega)
  clear hcc hff hss
  go_wp2
  go_ret
  exact ⟨congrArg (fun b => Ending.returned (.bool b)) HE.out, (by repeat (first | with_reducible exact Below.refl _ _ | with_reducible assumption | with_reducible apply Below.drew | with_reducible apply below_drewN | (with_reducible apply below_setp; (first | omega | (simp <;> omega))) | (with_reducible apply below_allocp; (first | omega | (simp <;> omega))) | (with_reducible refine below_viap (by assumption) ?_ ?_; (first | omega | (simp <;> omega)))))⟩
theorem abs_le {x : Int} {M : Nat} : ((x.natAbs : Int) ≤ M) ↔ (-(M : Int) ≤ x ∧ x ≤ M) := by omega
set_option maxHeartbeats 1600000 in
theorem isPlain_any (x y : Int) (w : World) (b1 : -1000000000 ≤ x ∧ x ≤ 1000000000) (b2 : -1000000000 ≤ y ∧ y ≤ 1000000000) :
    Calls Tryz.prog 44 #[.agg #[.int .i64 x, .int .i64 y]] w fun e w' => e = .returned (.bool (decide ((x.natAbs : Int) ≤ 10000) && decide ((y.natAbs : Int) ≤ 10000))) ∧ Below w.heap.size w w' := by
  have hX := Lib.hid (fun w => abs_any x w (by omega) (by omega))
  have hY := Lib.hid (fun w => abs_any y w (by omega) (by omega))
  clear b1 b2
  generalize (x.natAbs : Int) = s at *
  generalize (y.natAbs : Int) = t at *
  by_cases h1 : s ≤ 10000
  · have d1 : decide (s ≤ 10000) = true := decide_eq_true h1
    rw [d1, Bool.true_and]
    by_cases h2 : t ≤ 10000
    · have d2 : decide (t ≤ 10000) = true := decide_eq_true h2
      rw [d2]
      go_enter Tryz.func44, Tryz.ntmps44
      go_wp2_with (first | (go_at_call 25; (with_reducible refine (hX.out _).mono ?_); rintro e v ⟨rfl, rfl⟩) | (go_at_call 25; (with_reducible refine (hY.out _).mono ?_); rintro e v ⟨rfl, rfl⟩))
      go_ret
      exact ⟨rfl, (by repeat (first | with_reducible exact Below.refl _ _ | with_reducible assumption | with_reducible apply Below.drew | with_reducible apply below_drewN | (with_reducible apply below_setp; (first | omega | (simp <;> omega))) | (with_reducible apply below_allocp; (first | omega | (simp <;> omega))) | (with_reducible refine below_viap (by assumption) ?_ ?_; (first | omega | (simp <;> omega)))))⟩
    · have d2 : decide (t ≤ 10000) = false := decide_eq_false h2
      rw [d2]
      go_enter Tryz.func44, Tryz.ntmps44
      go_wp2_with (first | (go_at_call 25; (with_reducible refine (hX.out _).mono ?_); rintro e v ⟨rfl, rfl⟩) | (go_at_call 25; (with_reducible refine (hY.out _).mono ?_); rintro e v ⟨rfl, rfl⟩))
      go_ret
      exact ⟨rfl, (by repeat (first | with_reducible exact Below.refl _ _ | with_reducible assumption | with_reducible apply Below.drew | with_reducible apply below_drewN | (with_reducible apply below_setp; (first | omega | (simp <;> omega))) | (with_reducible apply below_allocp; (first | omega | (simp <;> omega))) | (with_reducible refine below_viap (by assumption) ?_ ?_; (first | omega | (simp <;> omega)))))⟩
  · have d1 : decide (s ≤ 10000) = false := decide_eq_false h1
    rw [d1, Bool.false_and]
    go_enter Tryz.func44, Tryz.ntmps44
    go_wp2_with (first | (go_at_call 25; (with_reducible refine (hX.out _).mono ?_); rintro e v ⟨rfl, rfl⟩) | (go_at_call 25; (with_reducible refine (hY.out _).mono ?_); rintro e v ⟨rfl, rfl⟩))
    go_ret
    exact ⟨rfl, (by repeat (first | with_reducible exact Below.refl _ _ | with_reducible assumption | with_reducible apply Below.drew | with_reducible apply below_drewN | (with_reducible apply below_setp; (first | omega | (simp <;> omega))) | (with_reducible apply below_allocp; (first | omega | (simp <;> omega))) | (with_reducible refine below_viap (by assumption) ?_ ?_; (first | omega | (simp <;> omega)))))⟩
set_option maxHeartbeats 1600000 in
/-- Both results are one: a point of the lattice is found to be one, if it is plain. -/
theorem isIn_any (A B D u v x y : Int) (w : World) (V : LaV A B D) (hx : x = u * A + v * B) (hy : y = v * D) (b1 : -1000000000 ≤ x ∧ x ≤ 1000000000) (b2 : -1000000000 ≤ y ∧ y ≤ 1000000000) :
    Calls Tryz.prog 18 #[.agg #[.int .i64 A, .int .i64 B, .int .i64 D], .agg #[.int .i64 x, .int .i64 y]] w fun e w' => (∃ b, e = .returned (.tuple #[.bool b, .bool b])) ∧ Below w.heap.size w w' := by
  have hL := Lib.hid (fun w => isLattice_any A B D w)
  rw [laB_iff.2 V] at hL
  have hP := Lib.hid (fun w => isPlain_any x y w b1 b2)
  cases hb : decide ((x.natAbs : Int) ≤ 10000) && decide ((y.natAbs : Int) ≤ 10000) with
  | false =>
    rw [hb] at hP
    clear hx hy b1 b2 hb V
    go_enter Tryz.func18, Tryz.ntmps18
    go_wp2_with (first | (go_at_call 26; (with_reducible refine (hL.out _).mono ?_); rintro e v1 ⟨rfl, hB1⟩; have hZ1 := hB1.size; (try simp at hZ1); (try have zl1 : w.heap.size < v1.heap.size := by omega); (try have ze1 : w.heap.size ≤ v1.heap.size := by omega); (try have zn1 : ¬ w.heap.size = v1.heap.size := by omega); (try have zm1 : ¬ v1.heap.size = w.heap.size := by omega); have hL1 : Blk v1 (w.heap.size) 32 #[.int .i64 A, .int .i64 B, .int .i64 D] := Blk.call (by (repeat (first | with_reducible assumption | (with_reducible apply Blk.new_at; (first | rfl | (simp; done))) | with_reducible apply Blk.store3 | with_reducible apply Blk.store4 | (with_reducible apply Blk.farp; (first | omega | (simp <;> omega))) | with_reducible apply Blk.allocp | with_reducible apply Blk.drew | with_reducible apply Blk.drewN))) hB1; have cL1 := hL1.cell; have fL1 := hL1.frozen; have lL1 := hL1.lt; have mL1 := Nat.ne_of_gt lL1; have nL1 := Nat.ne_of_lt lL1; have hP1 : Blk v1 (w.heap.size + 1) 51 #[.int .i64 x, .int .i64 y] := Blk.call (by (repeat (first | with_reducible assumption | (with_reducible apply Blk.new_at; (first | rfl | (simp; done))) | with_reducible apply Blk.store3 | with_reducible apply Blk.store4 | (with_reducible apply Blk.farp; (first | omega | (simp <;> omega))) | with_reducible apply Blk.allocp | with_reducible apply Blk.drew | with_reducible apply Blk.drewN))) hB1; have cP1 := hP1.cell; have fP1 := hP1.frozen; have lP1 := hP1.lt; have mP1 := Nat.ne_of_gt lP1; have nP1 := Nat.ne_of_lt lP1) | (go_at_call 44; (with_reducible refine (hP.out _).mono ?_); rintro e v2 ⟨rfl, hB2⟩; have hZ2 := hB2.size; (try simp at hZ2); (try have zl2 : w.heap.size < v2.heap.size := by omega); (try have ze2 : w.heap.size ≤ v2.heap.size := by omega); (try have zn2 : ¬ w.heap.size = v2.heap.size := by omega); (try have zm2 : ¬ v2.heap.size = w.heap.size := by omega); have hL2 : Blk v2 (w.heap.size) 32 #[.int .i64 A, .int .i64 B, .int .i64 D] := Blk.call (by (repeat (first | with_reducible assumption | (with_reducible apply Blk.new_at; (first | rfl | (simp; done))) | with_reducible apply Blk.store3 | with_reducible apply Blk.store4 | (with_reducible apply Blk.farp; (first | omega | (simp <;> omega))) | with_reducible apply Blk.allocp | with_reducible apply Blk.drew | with_reducible apply Blk.drewN))) hB2; have cL2 := hL2.cell; have fL2 := hL2.frozen; have lL2 := hL2.lt; have mL2 := Nat.ne_of_gt lL2; have nL2 := Nat.ne_of_lt lL2; have hP2 : Blk v2 (w.heap.size + 1) 51 #[.int .i64 x, .int .i64 y] := Blk.call (by (repeat (first | with_reducible assumption | (with_reducible apply Blk.new_at; (first | rfl | (simp; done))) | with_reducible apply Blk.store3 | with_reducible apply Blk.store4 | (with_reducible apply Blk.farp; (first | omega | (simp <;> omega))) | with_reducible apply Blk.allocp | with_reducible apply Blk.drew | with_reducible apply Blk.drewN))) hB2; have cP2 := hP2.cell; have fP2 := hP2.frozen; have lP2 := hP2.lt; have mP2 := Nat.ne_of_gt lP2; have nP2 := Nat.ne_of_lt lP2))
    go_ret2
    exact ⟨⟨false, rfl⟩, (by repeat (first | with_reducible exact Below.refl _ _ | with_reducible assumption | with_reducible apply Below.drew | with_reducible apply below_drewN | (with_reducible apply below_setp; (first | omega | (simp <;> omega))) | (with_reducible apply below_allocp; (first | omega | (simp <;> omega))) | (with_reducible refine below_viap (by assumption) ?_ ?_; (first | omega | (simp <;> omega)))))⟩
  | true =>
    rw [hb] at hP
    simp only [Bool.and_eq_true, decide_eq_true_eq] at hb
    have hH := Lib.hid (fun w => latHas_any A B D u v x y w V hx hy (by omega) (by omega))
    clear hx hy b1 b2 hb V
    go_enter Tryz.func18, Tryz.ntmps18
    go_wp2_with (first | (go_at_call 26; (with_reducible refine (hL.out _).mono ?_); rintro e v1 ⟨rfl, hB1⟩; have hZ1 := hB1.size; (try simp at hZ1); (try have zl1 : w.heap.size < v1.heap.size := by omega); (try have ze1 : w.heap.size ≤ v1.heap.size := by omega); (try have zn1 : ¬ w.heap.size = v1.heap.size := by omega); (try have zm1 : ¬ v1.heap.size = w.heap.size := by omega); have hL1 : Blk v1 (w.heap.size) 32 #[.int .i64 A, .int .i64 B, .int .i64 D] := Blk.call (by (repeat (first | with_reducible assumption | (with_reducible apply Blk.new_at; (first | rfl | (simp; done))) | with_reducible apply Blk.store3 | with_reducible apply Blk.store4 | (with_reducible apply Blk.farp; (first | omega | (simp <;> omega))) | with_reducible apply Blk.allocp | with_reducible apply Blk.drew | with_reducible apply Blk.drewN))) hB1; have cL1 := hL1.cell; have fL1 := hL1.frozen; have lL1 := hL1.lt; have mL1 := Nat.ne_of_gt lL1; have nL1 := Nat.ne_of_lt lL1; have hP1 : Blk v1 (w.heap.size + 1) 51 #[.int .i64 x, .int .i64 y] := Blk.call (by (repeat (first | with_reducible assumption | (with_reducible apply Blk.new_at; (first | rfl | (simp; done))) | with_reducible apply Blk.store3 | with_reducible apply Blk.store4 | (with_reducible apply Blk.farp; (first | omega | (simp <;> omega))) | with_reducible apply Blk.allocp | with_reducible apply Blk.drew | with_reducible apply Blk.drewN))) hB1; have cP1 := hP1.cell; have fP1 := hP1.frozen; have lP1 := hP1.lt; have mP1 := Nat.ne_of_gt lP1; have nP1 := Nat.ne_of_lt lP1) | (go_at_call 44; (with_reducible refine (hP.out _).mono ?_); rintro e v2 ⟨rfl, hB2⟩; have hZ2 := hB2.size; (try simp at hZ2); (try have zl2 : w.heap.size < v2.heap.size := by omega); (try have ze2 : w.heap.size ≤ v2.heap.size := by omega); (try have zn2 : ¬ w.heap.size = v2.heap.size := by omega); (try have zm2 : ¬ v2.heap.size = w.heap.size := by omega); have hL2 : Blk v2 (w.heap.size) 32 #[.int .i64 A, .int .i64 B, .int .i64 D] := Blk.call (by (repeat (first | with_reducible assumption | (with_reducible apply Blk.new_at; (first | rfl | (simp; done))) | with_reducible apply Blk.store3 | with_reducible apply Blk.store4 | (with_reducible apply Blk.farp; (first | omega | (simp <;> omega))) | with_reducible apply Blk.allocp | with_reducible apply Blk.drew | with_reducible apply Blk.drewN))) hB2; have cL2 := hL2.cell; have fL2 := hL2.frozen; have lL2 := hL2.lt; have mL2 := Nat.ne_of_gt lL2; have nL2 := Nat.ne_of_lt lL2; have hP2 : Blk v2 (w.heap.size + 1) 51 #[.int .i64 x, .int .i64 y] := Blk.call (by (repeat (first | with_reducible assumption | (with_reducible apply Blk.new_at; (first | rfl | (simp; done))) | with_reducible apply Blk.store3 | with_reducible apply Blk.store4 | (with_reducible apply Blk.farp; (first | omega | (simp <;> omega))) | with_reducible apply Blk.allocp | with_reducible apply Blk.drew | with_reducible apply Blk.drewN))) hB2; have cP2 := hP2.cell; have fP2 := hP2.frozen; have lP2 := hP2.lt; have mP2 := Nat.ne_of_gt lP2; have nP2 := Nat.ne_of_lt lP2) | (go_at_call 45; (with_reducible refine (hH.out _).mono ?_); rintro e v3 ⟨rfl, hB3⟩; have hZ3 := hB3.size; (try simp at hZ3); (try have zl3 : w.heap.size < v3.heap.size := by omega); (try have ze3 : w.heap.size ≤ v3.heap.size := by omega); (try have zn3 : ¬ w.heap.size = v3.heap.size := by omega); (try have zm3 : ¬ v3.heap.size = w.heap.size := by omega); have hL3 : Blk v3 (w.heap.size) 32 #[.int .i64 A, .int .i64 B, .int .i64 D] := Blk.call (by (repeat (first | with_reducible assumption | (with_reducible apply Blk.new_at; (first | rfl | (simp; done))) | with_reducible apply Blk.store3 | with_reducible apply Blk.store4 | (with_reducible apply Blk.farp; (first | omega | (simp <;> omega))) | with_reducible apply Blk.allocp | with_reducible apply Blk.drew | with_reducible apply Blk.drewN))) hB3; have cL3 := hL3.cell; have fL3 := hL3.frozen; have lL3 := hL3.lt; have mL3 := Nat.ne_of_gt lL3; have nL3 := Nat.ne_of_lt lL3))
    go_ret2
    exact ⟨⟨true, rfl⟩, (by repeat (first | with_reducible exact Below.refl _ _ | with_reducible assumption | with_reducible apply Below.drew | with_reducible apply below_drewN | (with_reducible apply below_setp; (first | omega | (simp <;> omega))) | (with_reducible apply below_allocp; (first | omega | (simp <;> omega))) | (with_reducible refine below_viap (by assumption) ?_ ?_; (first | omega | (simp <;> omega)))))⟩
set_option maxHeartbeats 1600000 in
theorem implDisc_f (a b c d : Int) (w : World) (h : isFm a b c = true) (hd : disc ⟨a, b, c⟩ = d) :
    Calls Tryz.prog 16 #[.agg #[.int .i64 a, .int .i64 b, .int .i64 c]] w fun e w' => e = .returned (.tuple #[.int .i64 d, .bool true]) ∧ Below w.heap.size w w' := by
  have hF := Lib.hid (fun w => IsForm_any a b c w)
  rw [h] at hF
  obtain ⟨k1, k2, k3⟩ := fm_prods h
  have hD := Lib.hid (fun w => idisc_any a b c w k1 k2 k3)
  rw [hd] at hD
  clear k1 k2 k3 h hd
  go_enter Tryz.func16, Tryz.ntmps16
  go_wp2_with (first
    | (go_at_call 40; (with_reducible refine (hF.out _).mono ?_); rintro e v1 ⟨rfl, hB1⟩; have hZ1 := hB1.size; (try simp at hZ1); (try have zl1 : w.heap.size < v1.heap.size := by omega); (try have ze1 : w.heap.size ≤ v1.heap.size := by omega); (try have zn1 : ¬ w.heap.size = v1.heap.size := by omega); (try have zm1 : ¬ v1.heap.size = w.heap.size := by omega); have hA1 : Blk v1 (w.heap.size) 36 #[.int .i64 a, .int .i64 b, .int .i64 c] := Blk.call (by (repeat (first | with_reducible assumption | (with_reducible apply Blk.new_at; (first | rfl | (simp; done))) | with_reducible apply Blk.store3 | with_reducible apply Blk.store4 | (with_reducible apply Blk.farp; (first | omega | (simp <;> omega))) | with_reducible apply Blk.allocp | with_reducible apply Blk.drew | with_reducible apply Blk.drewN))) hB1; have cA1 := hA1.cell; have fA1 := hA1.frozen; have lA1 := hA1.lt; have mA1 := Nat.ne_of_gt lA1; have nA1 := Nat.ne_of_lt lA1)
    | (go_at_call 42; (with_reducible refine (hD.out _).mono ?_); rintro e v2 ⟨rfl, hB2⟩; have hZ2 := hB2.size; (try simp at hZ2); (try have zl2 : w.heap.size < v2.heap.size := by omega); (try have ze2 : w.heap.size ≤ v2.heap.size := by omega); (try have zn2 : ¬ w.heap.size = v2.heap.size := by omega); (try have zm2 : ¬ v2.heap.size = w.heap.size := by omega); have hA2 : Blk v2 (w.heap.size) 36 #[.int .i64 a, .int .i64 b, .int .i64 c] := Blk.call (by (repeat (first | with_reducible assumption | (with_reducible apply Blk.new_at; (first | rfl | (simp; done))) | with_reducible apply Blk.store3 | with_reducible apply Blk.store4 | (with_reducible apply Blk.farp; (first | omega | (simp <;> omega))) | with_reducible apply Blk.allocp | with_reducible apply Blk.drew | with_reducible apply Blk.drewN))) hB2; have cA2 := hA2.cell; have fA2 := hA2.frozen; have lA2 := hA2.lt; have mA2 := Nat.ne_of_gt lA2; have nA2 := Nat.ne_of_lt lA2))
  go_ret2
  exact ⟨rfl, (by repeat (first | with_reducible exact Below.refl _ _ | with_reducible assumption | with_reducible apply Below.drew | with_reducible apply below_drewN | (with_reducible apply below_setp; (first | omega | (simp <;> omega))) | (with_reducible apply below_allocp; (first | omega | (simp <;> omega))) | (with_reducible refine below_viap (by assumption) ?_ ?_; (first | omega | (simp <;> omega)))))⟩
theorem areNumV (x y : Int) (e : TypeId) (w : World) :
    Calls Tryz.prog 24 #[.slice (some ⟨w.heap.size, 0, none⟩) 2 2] (w.alloc (.cells #[.int .i64 x, .int .i64 y] e)) fun e1 w' => e1 = .returned (.bool (isNum x && isNum y)) ∧ w.alloc (.cells #[.int .i64 x, .int .i64 y] e) = w' := by
  have hc : ∀ j, j < 2 → (w.alloc (.cells #[.int .i64 x, .int .i64 y] e)).cell? ⟨w.heap.size, j, none⟩ = some (.int .i64 ([x, y].getD j 0)) := by
    intro j hj
    match j, hj with
    | 0, _ => simp [go_sem]
    | 1, _ => simp [go_sem]
  have k := areNumbers_any w.heap.size 2 2 [x, y] (w.alloc (.cells #[.int .i64 x, .int .i64 y] e)) rfl (by omega) hc
  rw [show [x, y].all isNum = (isNum x && isNum y) by simp] at k
  exact k
theorem atV_bd {a b c x y : Int} (h : isFm a b c = true) (hx : -1000000 ≤ x ∧ x ≤ 1000000) (hy : -1000000 ≤ y ∧ y ≤ 1000000) : AtOK a b c x y := by
  obtain ⟨⟨a1, a2⟩, ⟨b1, b2⟩, ⟨c1, c2⟩⟩ := isFm_bd h
  have p1 := mul_bd (a := a) (x := x) (A := 1000000) (X := 1000000) (by omega) (by omega) (by omega) (by omega)
  have p2 := mul_bd (a := a * x) (x := x) (A := 1000000000000) (X := 1000000) (by omega) (by omega) (by omega) (by omega)
  have p3 := mul_bd (a := b) (x := x) (A := 1000000) (X := 1000000) (by omega) (by omega) (by omega) (by omega)
  have p4 := mul_bd (a := b * x) (x := y) (A := 1000000000000) (X := 1000000) (by omega) (by omega) (by omega) (by omega)
  have p5 := mul_bd (a := c) (x := y) (A := 1000000) (X := 1000000) (by omega) (by omega) (by omega) (by omega)
  have p6 := mul_bd (a := c * y) (x := y) (A := 1000000000000) (X := 1000000) (by omega) (by omega) (by omega) (by omega)
  constructor <;> (unfold Far; omega)
set_option maxHeartbeats 1600000 in
/-- The value, if the coordinates are numbers. -/
theorem implVA_g (a b c x y E : Int) (w : World) (hF : isFm a b c = true) (hE : atF a b c x y = E) :
    Calls Tryz.prog 17 #[.agg #[.int .i64 a, .int .i64 b, .int .i64 c], .int .i64 x, .int .i64 y] w fun e w' => (e = .returned (.tuple #[.int .i64 E, .bool true]) ∨ e = .returned (.tuple #[.int .i64 0, .bool false])) ∧ Below w.heap.size w w' := by
  have hFm := Lib.hid (fun w => IsForm_any a b c w)
  rw [hF] at hFm
  have hN := Lib.hid (fun e w => areNumV x y e w)
  cases hn : isNum x && isNum y with
  | false =>
    rw [hn] at hN
    clear hF hE hn
    go_enter Tryz.func17, Tryz.ntmps17
    go_wp2_with (first
      | (go_at_call 40; (with_reducible refine (hFm.out _).mono ?_); rintro e v1 ⟨rfl, hB1⟩; have hZ1 := hB1.size; (try simp at hZ1); (try have zl1 : w.heap.size < v1.heap.size := by omega); (try have ze1 : w.heap.size ≤ v1.heap.size := by omega); (try have zn1 : ¬ w.heap.size = v1.heap.size := by omega); (try have zm1 : ¬ v1.heap.size = w.heap.size := by omega); have hA1 : Blk v1 (w.heap.size) 36 #[.int .i64 a, .int .i64 b, .int .i64 c] := Blk.call (by (repeat (first | with_reducible assumption | (with_reducible apply Blk.new_at; (first | rfl | (simp; done))) | with_reducible apply Blk.store3 | with_reducible apply Blk.store4 | (with_reducible apply Blk.farp; (first | omega | (simp <;> omega))) | with_reducible apply Blk.allocp | with_reducible apply Blk.drew | with_reducible apply Blk.drewN))) hB1; have cA1 := hA1.cell; have fA1 := hA1.frozen; have lA1 := hA1.lt; have mA1 := Nat.ne_of_gt lA1; have nA1 := Nat.ne_of_lt lA1)
      | (go_at_call 24; (with_reducible refine (hN.out _ _).mono ?_); rintro e v2 ⟨rfl, rfl⟩))
    go_ret2
    exact ⟨.inr rfl, (by repeat (first | with_reducible exact Below.refl _ _ | with_reducible assumption | with_reducible apply Below.drew | with_reducible apply below_drewN | (with_reducible apply below_setp; (first | omega | (simp <;> omega))) | (with_reducible apply below_allocp; (first | omega | (simp <;> omega))) | (with_reducible refine below_viap (by assumption) ?_ ?_; (first | omega | (simp <;> omega)))))⟩
  | true =>
    rw [hn] at hN
    rw [Bool.and_eq_true, isNum_iff, isNum_iff] at hn
    have hV := Lib.hid (fun w => at_any a b c x y w (atV_bd hF hn.1 hn.2))
    rw [hE] at hV
    clear hF hE hn
    go_enter Tryz.func17, Tryz.ntmps17
    go_wp2_with (first
      | (go_at_call 40; (with_reducible refine (hFm.out _).mono ?_); rintro e v1 ⟨rfl, hB1⟩; have hZ1 := hB1.size; (try simp at hZ1); (try have zl1 : w.heap.size < v1.heap.size := by omega); (try have ze1 : w.heap.size ≤ v1.heap.size := by omega); (try have zn1 : ¬ w.heap.size = v1.heap.size := by omega); (try have zm1 : ¬ v1.heap.size = w.heap.size := by omega); have hA1 : Blk v1 (w.heap.size) 36 #[.int .i64 a, .int .i64 b, .int .i64 c] := Blk.call (by (repeat (first | with_reducible assumption | (with_reducible apply Blk.new_at; (first | rfl | (simp; done))) | with_reducible apply Blk.store3 | with_reducible apply Blk.store4 | (with_reducible apply Blk.farp; (first | omega | (simp <;> omega))) | with_reducible apply Blk.allocp | with_reducible apply Blk.drew | with_reducible apply Blk.drewN))) hB1; have cA1 := hA1.cell; have fA1 := hA1.frozen; have lA1 := hA1.lt; have mA1 := Nat.ne_of_gt lA1; have nA1 := Nat.ne_of_lt lA1)
      | (go_at_call 24; (with_reducible refine (hN.out _ _).mono ?_); rintro e v2 ⟨rfl, rfl⟩)
      | (go_at_call 43; (with_reducible refine (hV.out _).mono ?_); rintro e v3 ⟨rfl, hB3⟩))
    go_ret2
    exact ⟨.inl rfl, (by repeat (first | with_reducible exact Below.refl _ _ | with_reducible assumption | with_reducible apply Below.drew | with_reducible apply below_drewN | (with_reducible apply below_setp; (first | omega | (simp <;> omega))) | (with_reducible apply below_allocp; (first | omega | (simp <;> omega))) | (with_reducible refine below_viap (by assumption) ?_ ?_; (first | omega | (simp <;> omega)))))⟩
set_option maxRecDepth 100000 in
set_option maxHeartbeats 1600000 in
theorem pSamePoints_same (v u : Value) (B B2 : Nat) (L : List (Int × Int)) (w : World) (hl : L.length ≤ 100000) (h1 : w.ownsRow B 51 2 v L.length (cellsP L)) (h2 : w.ownsRow B2 51 2 u L.length (cellsP L)) :
    Calls Tryz.prog 13 #[v, u] w fun e w' => e = .returned (.bool true) ∧ Below w.heap.size w w' := by
  obtain ⟨b1, c1, rfl⟩ := own_shape h1
  obtain ⟨b2, c2, rfl⟩ := own_shape h2
  have H1 := Lib.hid h1
  have H2 := Lib.hid h2
  clear h1 h2
  go_enter Tryz.func13, Tryz.ntmps13
  go_wp2
  go_loopw [13] (fun i wr => ∃ k : Nat, i = .int .i64 k ∧ k ≤ L.length ∧ Below w.heap.size w wr) (fun i _ => L.length - (intOf i).toNat)
  case atStart => exact ⟨0, rfl, Nat.zero_le _, (by repeat (first | with_reducible exact Below.refl _ _ | with_reducible assumption | with_reducible apply Below.drew | with_reducible apply below_drewN | (with_reducible apply below_setp; (first | omega | (simp <;> omega))) | (with_reducible apply below_allocp; (first | omega | (simp <;> omega))) | (with_reducible refine below_viap (by assumption) ?_ ?_; (first | omega | (simp <;> omega)))))⟩
  case round =>
    obtain ⟨k, rfl, hk, hbel⟩ := hrel
    by_cases hlt : k < L.length
    · obtain ⟨g1, rfl, hg1, d1, d2⟩ := own_elemP H1.out hlt
      obtain ⟨g2, rfl, hg2, e1, e2⟩ := own_elemP H2.out hlt
      have d4 := (hbel.cell (p := ⟨g1, k * 2, none⟩) hg1).trans d1
      have d5 := (hbel.cell (p := ⟨g1, k * 2 + 1, none⟩) hg1).trans d2
      have e4 := (hbel.cell (p := ⟨g2, k * 2, none⟩) hg2).trans e1
      have e5 := (hbel.cell (p := ⟨g2, k * 2 + 1, none⟩) hg2).trans e2
      clear d1 d2 e1 e2
      generalize L[k].1 = r at d4 e4
      generalize L[k].2 = s at d5 e5
      have hz := hbel.size
      have hg3 : g1 < wr.heap.size := by omega
      have hg4 : g2 < wr.heap.size := by omega
      go_wp2
      go_quiet (fail)
      go_wp2
      exact ⟨⟨k + 1, rfl, hlt, (by repeat (first | with_reducible exact Below.refl _ _ | with_reducible assumption | with_reducible apply Below.drew | with_reducible apply below_drewN | (with_reducible apply below_setp; (first | omega | (simp <;> omega))) | (with_reducible apply below_allocp; (first | omega | (simp <;> omega))) | (with_reducible refine below_viap (by assumption) ?_ ?_; (first | omega | (simp <;> omega)))))⟩, by simp [intOf]; omega⟩
    · go_wp2
      go_ret
      exact ⟨rfl, hbel⟩
end

section
open Go.RowKit

theorem latL_mem {n : Nat} (hb : n ≤ 100) {f : Fm} (h : f ∈ latL n) : LaV f.a f.b f.c ∧ f.a * f.c = n := by
  unfold latL at h
  rw [List.mem_flatMap] at h
  obtain ⟨a, ha, h⟩ := h
  unfold latB at h
  rw [List.mem_map] at h
  obtain ⟨b, hb2, rfl⟩ := h
  rw [List.mem_range] at hb2
  obtain ⟨h1, h2, h3⟩ := divs_mem hb ha
  have hq : 1 ≤ (n : Int) / a ∨ (n : Int) / a ≤ 0 := by omega
  have hn0 : (1 : Int) ≤ n := by
    rcases Int.lt_or_le 0 (n : Int) with h | h
    · omega
    · exfalso
      have : n = 0 := by omega
      subst this
      have := (List.mem_map.1 ha)
      obtain ⟨i, hi, rfl⟩ := this
      rw [List.mem_filter, List.mem_range] at hi
      omega
  have hq1 : 1 ≤ (n : Int) / a := by
    rcases hq with h | h
    · exact h
    · have := Int.mul_nonneg (show 0 ≤ a by omega) (show 0 ≤ -((n : Int) / a) by omega)
      rw [Int.mul_neg] at this
      omega
  have hq2 : (n : Int) / a ≤ n := Int.ediv_le_self a (by omega)
  exact ⟨(⟨h1, by omega, hq1, by omega, by omega, by omega⟩ : LaV a (b : Int) ((n : Int) / a)), h3⟩
theorem latL_len {n : Nat} (hb : n ≤ 100) : (latL n).length ≤ 10000 := by
  rw [← latA_all]
  have := latA_len hb _ (Nat.le_refl _)
  have := divs_len hb
  omega
/-- Both sides give the same lattices. -/
theorem sl_both (n0 : Int) : ∃ (L : List Fm) (ok : Bool), (ok = true → ∃ n : Nat, n0 = n ∧ 1 ≤ n ∧ n ≤ 100 ∧ L = latL n) ∧ L.length ≤ 10000 ∧
    (∀ w, Calls Tryz.prog 6 #[.int .i64 n0] w (RetLt L ok w)) ∧ (∀ w, Calls Tryz.prog 7 #[.int .i64 n0] w (RetLt L ok w)) := by
  by_cases hv : 1 ≤ n0 ∧ n0 ≤ 100
  · obtain ⟨n, rfl⟩ : ∃ n : Nat, n0 = n := ⟨n0.toNat, by omega⟩
    have h1 : 1 ≤ n := by omega
    have h2 : n ≤ 100 := by omega
    exact ⟨latL n, true, fun _ => ⟨n, rfl, h1, h2, rfl⟩, latL_len h2, fun w => implSL_any n w h1 h2, fun w => specSL_any n w h1 h2⟩
  · exact ⟨[], false, (fun h => Bool.noConfusion h), Nat.zero_le _, fun w => implSL_no n0 w hv, fun w => specSL_no n0 w hv⟩
/-- What the law asks of the second half. -/
structure SubV (f : Fm) (A B D : Int) (r : Fm) (m : M4) (d k : Int) : Prop where
  g1 : isDefB (laF f A B D).a (laF f A B D).b (laF f A B D).c = true
  g2 : Def 1000000 (laF f A B D)
  g3 : isFm (laF f A B D).a (laF f A B D).b (laF f A B D).c = true
  f3 : isFm f.a f.b f.c = true
  dg : disc (laF f A B D) = d * k * k
  db : -4000000000000 ≤ d * k * k ∧ d * k * k ≤ 4000000000000
  dk : -4000000000000000 ≤ d * k ∧ d * k ≤ 4000000000000000
theorem actM_at (g : Fm) (m : M4) (x y : Int) : atF (actM g m).a (actM g m).b (actM g m).c x y = atF g.a g.b g.c (m.p * x + m.q * y) (m.r * x + m.s * y) := by
  unfold actM atF polF
  grind
theorem laF_at (f : Fm) (A B D u v : Int) : atF f.a f.b f.c (u * A + v * B) (v * D) = atF (laF f A B D).a (laF f A B D).b (laF f A B D).c u v := by
  unfold laF atF polF
  grind
theorem disc_fm {a b c : Int} (h : isFm a b c = true) : -4000000000000 ≤ disc ⟨a, b, c⟩ ∧ disc ⟨a, b, c⟩ ≤ 5000000000000 := by
  obtain ⟨⟨a1, a2⟩, ⟨b1, b2⟩, ⟨c1, c2⟩⟩ := isFm_bd h
  have p1 := mul_bd (a := b) (x := b) (A := 1000000) (X := 1000000) (by omega) (by omega) (by omega) (by omega)
  have p2 := mul_bd (a := 4 * a) (x := c) (A := 4000000) (X := 1000000) (by omega) (by omega) (by omega) (by omega)
  have s := sqn b
  show -4000000000000 ≤ b * b - 4 * a * c ∧ b * b - 4 * a * c ≤ 5000000000000
  omega
theorem subV_of {f : Fm} {A B D d k : Int} (h : laA f A B D = true) (hd : disc f = d) (hk : A * D = k) : SubV f A B D (red (laF f A B D)) (redM (laF f A B D) M4.one) d k := by
  obtain ⟨hD, hV, hf⟩ := laDef h
  unfold laA at h
  simp only [Bool.and_eq_true] at h
  obtain ⟨h1, _, h3⟩ := h
  have e1 : disc (laF f A B D) = d * k * k := by
    subst hd hk
    unfold disc laF atF polF
    grind
  have n1 : disc (laF f A B D) < 0 := by
    have := hD.d
    unfold disc
    have e : 4 * (laF f A B D).a * (laF f A B D).c = 4 * ((laF f A B D).a * (laF f A B D).c) := by grind
    omega
  have b1 := disc_fm h3
  have e2 : (⟨(laF f A B D).a, (laF f A B D).b, (laF f A B D).c⟩ : Fm) = laF f A B D := rfl
  rw [e2] at b1
  have b2 := disc_fm hf
  have e3 : (⟨f.a, f.b, f.c⟩ : Fm) = f := rfl
  rw [e3, hd] at b2
  have v1 := hV.a1; have v2 := hV.a2; have v3 := hV.d1; have v4 := hV.d2
  have kb := Int.mul_le_mul v2 v4 (by omega) (by omega)
  have kb0 := Int.mul_nonneg (show 0 ≤ A by omega) (show 0 ≤ D by omega)
  rw [hk] at kb kb0
  have kd : -4000000000000000 ≤ d * k ∧ d * k ≤ 4000000000000000 := by
    -- d is not positive, and d * k lies between d * k * k and 0
    have hk1 : 1 ≤ k := by
      rw [← hk]
      have := Int.mul_le_mul v1 v3 (by omega) (by omega)
      omega
    have hdn : d < 0 := by
      apply Int.not_le.1
      intro hd0
      have := Int.mul_nonneg (Int.mul_nonneg hd0 (show 0 ≤ k by omega)) (show 0 ≤ k by omega)
      omega
    have h5 : 0 ≤ (-d) * k := Int.mul_nonneg (by omega) (by omega)
    have h6 : (-d) * k ≤ ((-d) * k) * k := by
      have := Int.mul_le_mul_of_nonneg_left hk1 h5
      omega
    have e5 : (-d) * k = -(d * k) := Int.neg_mul _ _
    have e6 : ((-d) * k) * k = -(d * k * k) := by rw [e5, Int.neg_mul]
    omega
  refine ⟨?_, hD, h3, hf, e1, by omega, kd⟩
  unfold isDefB
  rw [h3, Bool.true_and, e2, decide_eq_true n1, Bool.true_and]
  exact decide_eq_true hD.a0
theorem bxS_two {r : Fm} {m : M4} {A B D : Int} {K : List (Int × Int)} (h : BxS r m A B D 9 K) (ha : 0 < r.a) (hb : -r.a ≤ r.b ∧ r.b ≤ r.a) (hac : r.a ≤ r.c) (hm : m.p * m.s - m.q * m.r = 1) (hA : A ≠ 0) (hD : D ≠ 0) : 2 ≤ K.length := by
  have h1 : laPt m A B D (1, 0) ∈ K := (h.2 _).2 ⟨(1, 0), by rw [bxL_all]; exact (shL_mem ha hb hac _).2 (by simp), rfl⟩
  have h2 : laPt m A B D (-1, 0) ∈ K := (h.2 _).2 ⟨(-1, 0), by rw [bxL_all]; exact (shL_mem ha hb hac _).2 (by simp), rfl⟩
  match hl : K with
  | [] => cases h1
  | [x] =>
    rw [List.mem_singleton] at h1 h2
    rw [← h2] at h1
    have := laPt_inj hm hA hD h1
    cases this
  | _ :: _ :: _ => simp
/-- A shortest point: its coordinates, its value. -/
theorem bxS_pt {f : Fm} {A B D : Int} {r : Fm} {m : M4} {K : List (Int × Int)} (S : SpV f A B D r m) (V : LaV A B D) (h2 : Def 1000000 (laF f A B D)) (h : BxS r m A B D 9 K) {q : Int × Int} (hq : q ∈ K) :
    ∃ u v, q.1 = u * A + v * B ∧ q.2 = v * D ∧ (-5000000 ≤ q.1 ∧ q.1 ≤ 5000000) ∧ (-5000000 ≤ q.2 ∧ q.2 ≤ 5000000) ∧ atF f.a f.b f.c q.1 q.2 = r.a := by
  obtain ⟨⟨x, y⟩, hp, rfl⟩ := (h.2 q).1 hq
  rw [bxL_all] at hp
  have ra := S.ra; have rb := S.rb; have rc := S.rc
  have hv := (shL_mem (by omega) rb rc.1 _).1 hp
  obtain ⟨⟨x1, x2⟩, ⟨y1, y2⟩⟩ := least_box (by omega) rb rc.1 hv
  obtain ⟨⟨b1, b2⟩, ⟨b3, b4⟩, ⟨b5, b6⟩, ⟨b7, b8⟩⟩ := S.mb
  have p1 := mul_bd (a := m.p) (x := x) (A := 1200) (X := 1) (by omega) (by omega) (by omega) (by omega)
  have p2 := mul_bd (a := m.q) (x := y) (A := 1200) (X := 1) (by omega) (by omega) (by omega) (by omega)
  have p3 := mul_bd (a := m.r) (x := x) (A := 1200) (X := 1) (by omega) (by omega) (by omega) (by omega)
  have p4 := mul_bd (a := m.s) (x := y) (A := 1200) (X := 1) (by omega) (by omega) (by omega) (by omega)
  have v1 := V.a1; have v2 := V.a2; have v3 := V.d1; have v4 := V.d2; have v5 := V.b0; have v6 := V.b2
  have q1 := mul_bd (a := m.p * x + m.q * y) (x := A) (A := 2400) (X := 1000) (by omega) (by omega) (by omega) (by omega)
  have q2 := mul_bd (a := m.r * x + m.s * y) (x := B) (A := 2400) (X := 1000) (by omega) (by omega) (by omega) (by omega)
  have q3 := mul_bd (a := m.r * x + m.s * y) (x := D) (A := 2400) (X := 1000) (by omega) (by omega) (by omega) (by omega)
  refine ⟨m.p * x + m.q * y, m.r * x + m.s * y, rfl, rfl, ?_, ?_, ?_⟩
  · show -5000000 ≤ (m.p * x + m.q * y) * A + (m.r * x + m.s * y) * B ∧ (m.p * x + m.q * y) * A + (m.r * x + m.s * y) * B ≤ 5000000
    omega
  · show -5000000 ≤ (m.r * x + m.s * y) * D ∧ (m.r * x + m.s * y) * D ≤ 5000000
    omega
  · show atF f.a f.b f.c ((m.p * x + m.q * y) * A + (m.r * x + m.s * y) * B) ((m.r * x + m.s * y) * D) = r.a
    rw [laF_at, ← actM_at]
    have e := (redM_act (def_mono h2 (by decide))).1
    rw [← S.hr, ← S.hm] at e
    rw [e]
    exact hv
end
end Go.Proofs.YtblcmkhkbgikoaaGreat
