/- Parts N8 N9 N10 laid together by tp.py. -/
import Derived.Test.YtjfcaafmlghjlaaN7
import Derived.Test.YtjfcaafmlghjlaaUA
namespace Go.Proofs.Ytjfcaafmlghjlaa
section
open Go.RowKit

theorem NoDiv.self {p n : Int} (h : NoDiv p n) (hp : p ∣ n) : NoDiv p p := fun q h1 h2 h3 => h q h1 h2 (Int.dvd_trans h3 hp)
theorem NoDiv.prime {p n : Int} (hp : 2 ≤ p) (h : NoDiv p n) (hpp : ¬ p * p ≤ n) : NoDiv n n := by
  rintro q h1 h2 ⟨r, hr⟩
  by_cases hq : q < p
  · exact h q h1 hq ⟨r, hr⟩
  · have hr0 : 2 ≤ r := by
      apply Int.not_lt.1; intro hl
      have h3 : q * r ≤ q * 1 := Int.mul_le_mul_of_nonneg_left (by omega) (by omega)
      omega
    have hrp : r < p := by
      apply Int.not_le.1; intro hl
      have h3 : p * p ≤ q * r := Int.mul_le_mul (by omega) hl (by omega) (by omega)
      omega
    exact h r hr0 hrp ⟨q, by rw [Int.mul_comm]; exact hr⟩
theorem fac_mem : ∀ (k : Nat) (b : Bool) (p n : Int), 2 ≤ p → 1 ≤ n → NoDiv p n → ∀ x ∈ fac k b p n, 2 ≤ x ∧ x ≤ n ∧ NoDiv x x
  | 0, _, _, _, _, _, _ => by simp [fac]
  | k + 1, false, p, n, hp, hn, hd => by
    unfold fac
    split
    · exact fac_mem k true p n hp hn hd
    · split
      · rename_i h1 h2
        intro x hx
        simp at hx
        subst hx
        exact ⟨by omega, Int.le_refl _, hd.prime hp h1⟩
      · simp
  | k + 1, true, p, n, hp, hn, hd => by
    unfold fac
    split
    · rename_i h
      obtain ⟨q1, q2⟩ := div_lt hn hp h
      have hpn : p ∣ n := Int.dvd_of_emod_eq_zero h
      have ih := fac_mem k true p (n / p) hp q1 (hd.div h)
      intro x hx
      simp only [List.mem_cons] at hx
      rcases hx with rfl | hx
      · exact ⟨hp, Int.le_of_dvd (by omega) hpn, hd.self hpn⟩
      · obtain ⟨i1, i2, i3⟩ := ih x hx
        exact ⟨i1, by omega, i3⟩
    · rename_i h
      exact fac_mem k false (p + 1) n (by omega) hn (hd.next h)
theorem addD_sub (P : List Int) (f : Int) : ∀ x ∈ addD P f, x ∈ P ∨ x = f := by
  unfold addD
  split
  · intro x hx; exact .inl hx
  · intro x hx; simpa using hx
theorem fold_sub : ∀ (F P : List Int), ∀ x ∈ F.foldl addD P, x ∈ P ∨ x ∈ F
  | [], P => by intro x hx; exact .inl hx
  | f :: F, P => by
    intro x hx
    simp only [List.foldl_cons] at hx
    rcases fold_sub F _ x hx with h | h
    · rcases addD_sub P f x h with h | h
      · exact .inl h
      · exact .inr (by simp [h])
    · exact .inr (by simp [h])
theorem prims_mem {n : Int} (hn : 1 ≤ n) : ∀ x ∈ prims n, 2 ≤ x ∧ x ≤ n ∧ NoDiv x x := by
  intro x hx
  rcases fold_sub (facL n) [] x hx with h | h
  · simp at h
  · exact fac_mem _ _ _ _ (by omega) hn (fun q h1 h2 _ => by omega) x h
theorem prims_odd {n x : Int} (hn : 1 ≤ n) (hx : x ∈ prims n) (h2 : 2 < x) : x % 2 = 1 := by
  obtain ⟨_, _, h⟩ := prims_mem hn x hx
  have := h 2 (by omega) h2
  have h3 : ¬ x % 2 = 0 := fun e => this (Int.dvd_of_emod_eq_zero e)
  omega

/-- The value of a character (its kind and its prime). -/
def chi (x : Int × Int) (n : Int) : Int := if x.1 = 1 then jacS (n % x.2) x.2 else if n % 2 = 0 then 0 else if x.1 = 2 then 2 - n % 4 else if x.1 = 3 then two n else (2 - n % 4) * two n
theorem tm2 (n : Int) : n.tmod 2 = 0 ↔ n % 2 = 0 := by
  rw [← Int.dvd_iff_tmod_eq_zero, Int.dvd_iff_emod_eq_zero]
def ChOK (x : Int × Int) : Prop := (x.1 = 1 ∧ 0 < x.2 ∧ x.2 ≤ 200000 ∧ x.2 % 2 = 1) ∨ (x.1 = 2 ∧ x.2 = 0) ∨ (x.1 = 3 ∧ x.2 = 0) ∨ (x.1 = 4 ∧ x.2 = 0)

set_option maxHeartbeats 1600000 in
theorem chValue_any (x : Int × Int) (n : Int) (w : World) (hx : ChOK x) (_h0 : -1000000000000000 ≤ n) (_h1 : n ≤ 1000000000000000) :
    Calls Try.prog 346 #[.agg #[.int .i64 x.1, .int .i64 x.2], .int .i64 n] w fun e w' => e = .returned (.int .i64 (chi x n)) ∧ Below w.heap.size w w' := by
  obtain ⟨k, p⟩ := x
  obtain ⟨t, ht⟩ : ∃ t, chi (k, p) n = t := ⟨_, rfl⟩
  rw [ht]
  have m0 := Int.emod_nonneg n (show (4 : Int) ≠ 0 by omega)
  have m1 := Int.emod_lt_of_pos n (show (0 : Int) < 4 by omega)
  have hM := Lib.hid (fun w => mod_any n 4 w (by omega) (by omega))
  have hT := Lib.hid (fun w => symbolOfTwo_any n w)
  have hsg := two_sg n
  unfold chi at ht
  simp only at ht ⊢
  rcases hx with ⟨hk, p0, p1, po⟩ | ⟨hk, hp⟩ | ⟨hk, hp⟩ | ⟨hk, hp⟩
  · simp only at hk p0 p1 po
    subst hk
    rw [if_pos rfl] at ht
    have hJ := Lib.hid (fun w => jacobi_any n p w p0 (by omega) po)
    rw [ht] at hJ
    clear ht po hsg hM hT
    go_enter Try.func346, Try.ntmps346
    go_wp2_with (go_at_call 240; (with_reducible refine (hJ.out _).mono ?_); rintro e v ⟨rfl, rfl⟩)
    go_ret
    exact ⟨rfl, (by repeat (first | with_reducible exact Below.refl _ _ | with_reducible assumption | with_reducible apply Below.drew | with_reducible apply below_drewN | (with_reducible apply below_setp; (first | omega | (simp <;> omega))) | (with_reducible apply below_allocp; (first | omega | (simp <;> omega))) | (with_reducible refine below_viap (by assumption) ?_ ?_; (first | omega | (simp <;> omega)))))⟩
  all_goals
    simp only at hk hp
    subst hk; subst hp
    by_cases he : n % 2 = 0
    · have e1 : (n.tmod 2 == 0) = true := by rw [beq_iff_eq]; exact (tm2 n).2 he
      have hx := Lib.hid (show 0 = t by rw [← ht, if_neg (by omega), if_pos he])
      clear ht he hsg hM hT
      go_enter Try.func346, Try.ntmps346
      go_wp2
      go_ret
      exact ⟨ret_int hx.out, (by repeat (first | with_reducible exact Below.refl _ _ | with_reducible assumption | with_reducible apply Below.drew | with_reducible apply below_drewN | (with_reducible apply below_setp; (first | omega | (simp <;> omega))) | (with_reducible apply below_allocp; (first | omega | (simp <;> omega))) | (with_reducible refine below_viap (by assumption) ?_ ?_; (first | omega | (simp <;> omega)))))⟩
    · have e1 : (n.tmod 2 == 0) = false := by rw [beq_eq_false_iff_ne]; exact fun h => he ((tm2 n).1 h)
      rw [if_neg (by omega), if_neg he] at ht
      simp only [Int.reduceEq, if_true, if_false] at ht
      have hx := Lib.hid ht
      have hs1 : -1 ≤ two n ∧ two n ≤ 1 := by rcases hsg with h | h <;> rw [h] <;> omega
      obtain ⟨hs1, hs2⟩ := hs1
      have hpr := mul_bd (a := 2 - n % 4) (x := two n) (A := 2) (X := 1) (by omega) (by omega) (by omega) (by omega)
      obtain ⟨hp1, hp2⟩ := hpr
      generalize two n = s at *
      generalize n % 4 = r at *
      clear ht he hsg
      go_enter Try.func346, Try.ntmps346
      go_wp2_with (first | (go_at_call 233; (with_reducible refine (hM.out _).mono ?_); rintro e v ⟨rfl, rfl⟩) | (go_at_call 239; (with_reducible refine (hT.out _).mono ?_); rintro e v ⟨rfl, rfl⟩))
      go_ret
      exact ⟨ret_int hx.out, (by repeat (first | with_reducible exact Below.refl _ _ | with_reducible assumption | with_reducible apply Below.drew | with_reducible apply below_drewN | (with_reducible apply below_setp; (first | omega | (simp <;> omega))) | (with_reducible apply below_allocp; (first | omega | (simp <;> omega))) | (with_reducible refine below_viap (by assumption) ?_ ?_; (first | omega | (simp <;> omega)))))⟩

set_option maxHeartbeats 1600000 in
theorem chAt_any (x : Int × Int) (n : Int) (w : World) (hx : ChOK x) (_h0 : -1000000000000000 ≤ n) (_h1 : n ≤ 1000000000000000) :
    Calls Try.prog 326 #[.agg #[.int .i64 x.1, .int .i64 x.2], .int .i64 n] w fun e w' => e = .returned (.int .i64 (chi x n)) ∧ Below w.heap.size w w' := by
  obtain ⟨k, p⟩ := x
  obtain ⟨t, ht⟩ : ∃ t, chi (k, p) n = t := ⟨_, rfl⟩
  rw [ht]
  have m0 := Int.emod_nonneg n (show (4 : Int) ≠ 0 by omega)
  have m1 := Int.emod_lt_of_pos n (show (0 : Int) < 4 by omega)
  have hM := Lib.hid (fun w => nuMod_any n 4 w (by omega) (by omega))
  have hsg := two_sg n
  unfold chi at ht
  simp only at ht ⊢
  rcases hx with ⟨hk, p0, p1, po⟩ | ⟨hk, hp⟩ | ⟨hk, hp⟩ | ⟨hk, hp⟩
  · simp only at hk p0 p1 po
    subst hk
    rw [if_pos rfl] at ht
    have hJ := Lib.hid (fun w => syJacobi_any n p w p0 (by omega) po)
    rw [ht] at hJ
    clear ht po hsg hM
    go_enter Try.func326, Try.ntmps326
    go_wp2_with (go_at_call 343; (with_reducible refine (hJ.out _).mono ?_); rintro e v1 ⟨rfl, hB1⟩; have hZ1 := hB1.size; (try simp at hZ1); (try have zl1 : w.heap.size < v1.heap.size := by omega); (try have ze1 : w.heap.size ≤ v1.heap.size := by omega); (try have zn1 : ¬ w.heap.size = v1.heap.size := by omega); (try have zm1 : ¬ v1.heap.size = w.heap.size := by omega); have hC1_0 := fun o => (calm_cells hB1).1 (w.heap.size) o (by first | omega | (simp <;> omega)); have hF1_0 := fun o => (calm_cells hB1).2 (w.heap.size) o (by first | omega | (simp <;> omega)); (try have hl1_0 : w.heap.size < v1.heap.size := by omega); (try have hm1_0 : ¬ w.heap.size = v1.heap.size := by omega); (try have hn1_0 : ¬ v1.heap.size = w.heap.size := by omega))
    go_ret
    exact ⟨rfl, (by repeat (first | with_reducible exact Below.refl _ _ | with_reducible assumption | with_reducible apply Below.drew | with_reducible apply below_drewN | (with_reducible apply below_setp; (first | omega | (simp <;> omega))) | (with_reducible apply below_allocp; (first | omega | (simp <;> omega))) | (with_reducible refine below_viap (by assumption) ?_ ?_; (first | omega | (simp <;> omega)))))⟩
  all_goals
    simp only at hk hp
    subst hk; subst hp
    by_cases he : n % 2 = 0
    · have e1 : (n.tmod 2 == 0) = true := by rw [beq_iff_eq]; exact (tm2 n).2 he
      have hx := Lib.hid (show 0 = t by rw [← ht, if_neg (by omega), if_pos he])
      clear ht he hsg hM
      go_enter Try.func326, Try.ntmps326
      go_wp2
      go_ret
      exact ⟨ret_int hx.out, (by repeat (first | with_reducible exact Below.refl _ _ | with_reducible assumption | with_reducible apply Below.drew | with_reducible apply below_drewN | (with_reducible apply below_setp; (first | omega | (simp <;> omega))) | (with_reducible apply below_allocp; (first | omega | (simp <;> omega))) | (with_reducible refine below_viap (by assumption) ?_ ?_; (first | omega | (simp <;> omega)))))⟩
    · have e1 : (n.tmod 2 == 0) = false := by rw [beq_eq_false_iff_ne]; exact fun h => he ((tm2 n).1 h)
      have hT := Lib.hid (fun w => syTwo_any n w (by omega))
      rw [if_neg (by omega), if_neg he] at ht
      simp only [Int.reduceEq, if_true, if_false] at ht
      have hx := Lib.hid ht
      have hs1 : -1 ≤ two n ∧ two n ≤ 1 := by rcases hsg with h | h <;> rw [h] <;> omega
      obtain ⟨hs1, hs2⟩ := hs1
      have hpr := mul_bd (a := 2 - n % 4) (x := two n) (A := 2) (X := 1) (by omega) (by omega) (by omega) (by omega)
      obtain ⟨hp1, hp2⟩ := hpr
      generalize two n = s at *
      generalize n % 4 = r at *
      clear ht he hsg
      go_enter Try.func326, Try.ntmps326
      go_wp2_with (first | (go_at_call 237; (with_reducible refine (hM.out _).mono ?_); rintro e v ⟨rfl, rfl⟩) | (go_at_call 344; (with_reducible refine (hT.out _).mono ?_); rintro e v ⟨rfl, rfl⟩))
      go_ret
      exact ⟨ret_int hx.out, (by repeat (first | with_reducible exact Below.refl _ _ | with_reducible assumption | with_reducible apply Below.drew | with_reducible apply below_drewN | (with_reducible apply below_setp; (first | omega | (simp <;> omega))) | (with_reducible apply below_allocp; (first | omega | (simp <;> omega))) | (with_reducible refine below_viap (by assumption) ?_ ?_; (first | omega | (simp <;> omega)))))⟩
end

section
open Go.RowKit

def cellsC (L : List (Int × Int)) : List Value := L.flatMap fun s => [.int .i64 s.1, .int .i64 s.2]
theorem cellsC_append (L K : List (Int × Int)) : cellsC (L ++ K) = cellsC L ++ cellsC K := by simp [cellsC]
theorem cellsC_get : ∀ (L : List (Int × Int)) (i : Nat) (h : i < L.length), (cellsC L)[2 * i]? = some (.int .i64 L[i].1) ∧ (cellsC L)[2 * i + 1]? = some (.int .i64 L[i].2)
  | f :: L, 0, _ => by simp [cellsC]
  | f :: L, i + 1, h => by
    have ih := cellsC_get L i (by simpa using h)
    have e : cellsC (f :: L) = .int .i64 f.1 :: .int .i64 f.2 :: cellsC L := by simp [cellsC]
    rw [e, show 2 * (i + 1) = 2 * i + 2 by omega]
    simpa using ih
theorem infoChar : (Try.prog.info? 275).map (fun i => (i.zero, i.size, i.bytes)) = some (some (.agg #[.int .i64 0, .int .i64 0]), 2, 16) := by kernel_rfl
theorem cellsB {w : World} {g : Nat} {t : TypeId} {cs : Array Value} (h : Blk w g t cs) : ∀ j u, cs.toList[j]? = some u → w.cell? ((⟨g, 0, none⟩ : Addr).add j) = some u := by
  intro j u hu
  have e : (⟨g, 0, none⟩ : Addr).add j = ⟨g, j, none⟩ := by unfold Addr.add; split <;> simp_all
  rw [e, h.cell j]
  simpa using hu
theorem one4 (x y z u : Int) : ∀ q ∈ ([.int .i64 x, .int .i64 y, .int .i64 z, .int .i64 u] : List Value), q.oneCell' = true := by
  intro q hq; simp at hq; rcases hq with rfl | rfl | rfl | rfl <;> rfl
/-- The element k of an owned list of characters. -/
theorem own_elemC {w : World} {B : Nat} {e : TypeId} {base : Option Addr} {n cap : Nat} {L : List (Int × Int)} (h : w.ownsRow B e 2 (.slice base n cap) L.length (cellsC L)) {k : Nat} (hk : k < L.length) :
    ∃ g, base = some ⟨g, 0, none⟩ ∧ g < w.heap.size ∧ w.cell? ⟨g, k * 2, none⟩ = some (.int .i64 L[k].1) ∧ w.cell? ⟨g, k * 2 + 1, none⟩ = some (.int .i64 L[k].2) := by
  rcases own_form h with ⟨hv, h0⟩ | ⟨g, c, hv, h1, h2, h3⟩
  · omega
  · injection hv with e1 e2 e3
    obtain ⟨c1, c2⟩ := cellsC_get L k hk
    rw [show k * 2 = 2 * k by omega]
    exact ⟨g, e1, h2, h3 _ _ c1, h3 _ _ c2⟩
def RetC (L : List (Int × Int)) (w : World) (e : Ending) (w' : World) : Prop := ∃ v, e = .returned v ∧ w'.ownsRow w.heap.size 275 2 v L.length (cellsC L) ∧ Below w.heap.size w w'

/-- The characters of odd primes. -/
def chP (P : List Int) : List (Int × Int) := (P.filter fun p => decide (2 < p)).map fun p => (1, p)
theorem chP_take {P : List Int} {k : Nat} (h : k < P.length) : chP (P.take (k + 1)) = chP (P.take k) ++ if 2 < P[k] then [(1, P[k])] else [] := by
  unfold chP
  rw [List.take_succ_eq_append_getElem h, List.filter_append, List.map_append]
  congr 1
  by_cases h2 : 2 < P[k] <;> simp [h2]
theorem chP_len (P : List Int) : (chP P).length ≤ P.length := by unfold chP; rw [List.length_map]; exact List.length_filter_le _ _
/-- The characters of two. -/
def tailC (m : Int) : List (Int × Int) := if m % 2 = 1 then [] else if m / 4 % 8 = 1 ∨ m / 4 % 8 = 5 ∨ m / 4 % 8 = 4 then [(2, 0)] else if m / 4 % 8 = 2 then [(4, 0)] else if m / 4 % 8 = 6 then [(3, 0)] else if m / 4 % 8 = 0 then [(2, 0), (3, 0)] else []
/-- The assigned characters of -m. -/
def chars (m : Int) : List (Int × Int) := chP (prims m) ++ tailC m
theorem prims_len (m : Int) (h : m ≤ 200000) : (prims m).length ≤ 900000 := by
  have h1 := fold_len (facL m) []
  have h2 := fac_len (4 * m + 20000).toNat false 2 m
  unfold prims; unfold facL at *; simp at h1; omega
theorem tailC_len (m : Int) : (tailC m).length ≤ 2 := by 
  unfold tailC
  repeat' split
  all_goals simp
theorem chars_len (m : Int) (h : m ≤ 200000) : (chars m).length ≤ 900002 := by
  have h1 := chP_len (prims m)
  have h2 := prims_len m h
  have h3 := tailC_len m
  unfold chars; rw [List.length_append]; omega
theorem chars_ok {m : Int} (h1 : 1 ≤ m) (h2 : m ≤ 200000) : ∀ x ∈ chars m, ChOK x := by
  intro x hx
  unfold chars at hx
  rw [List.mem_append] at hx
  rcases hx with hx | hx
  · unfold chP at hx
    simp only [List.mem_map, List.mem_filter, decide_eq_true_eq] at hx
    obtain ⟨p, ⟨hp, hp2⟩, rfl⟩ := hx
    obtain ⟨_, hpm, _⟩ := prims_mem h1 p hp
    exact .inl ⟨rfl, by simp only; omega, by simp only; omega, prims_odd h1 hp hp2⟩
  · unfold tailC at hx
    repeat' split at hx
    all_goals simp at hx
    all_goals unfold ChOK
    all_goals (try (rcases hx with rfl | rfl)) <;> simp_all

/-- The state of the loop. -/
def ChSt (P : List Int) (B : Nat) (vl : Value) (w : World) (v vi : Value) (wr : World) : Prop :=
  ∃ k : Nat, vi = .int .i64 k ∧ k ≤ P.length ∧ wr.ownsRow w.heap.size 275 2 v (chP (P.take k)).length (cellsC (chP (P.take k))) ∧ wr.ownsRow B 3 1 vl P.length (cellsI P) ∧ Apart v vl ∧ Below w.heap.size w wr
theorem own_snocC {w : World} {B : Nat} {e : TypeId} {v : Value} {L K : List (Int × Int)} {r s : Int} (hx : K = L ++ [(r, s)]) (h : w.ownsRow B e 2 v (L.length + 1) (cellsC L ++ [.int .i64 r, .int .i64 s])) :
    w.ownsRow B e 2 v K.length (cellsC K) := by
  subst hx
  rw [List.length_append, cellsC_append]
  exact h
theorem own_snocC2 {w : World} {B : Nat} {e : TypeId} {v : Value} {L K : List (Int × Int)} {r s p q : Int} (hx : K = L ++ [(r, s), (p, q)]) (h : w.ownsRow B e 2 v (L.length + 2) (cellsC L ++ [.int .i64 r, .int .i64 s, .int .i64 p, .int .i64 q])) :
    w.ownsRow B e 2 v K.length (cellsC K) := by
  subst hx
  rw [List.length_append, cellsC_append]
  exact h

set_option maxRecDepth 100000 in
set_option maxHeartbeats 6400000 in
theorem assigned_any (m : Int) (w : World) (h1 : 1 ≤ m) (h2 : m ≤ 200000) : Calls Try.prog 345 #[.int .i64 (-m)] w (RetC (chars m) w) := by
  obtain ⟨i0, hi, hz0, hz1, hz2⟩ := info_parts infoChar
  have hl := prims_len m h2
  have hF := Lib.hid (fun w => primesOf_any m w h1 (by omega))
  obtain ⟨K, hK⟩ : ∃ K, chars m = K := ⟨_, rfl⟩
  rw [hK]
  unfold chars at hK
  generalize prims m = P at *
  have HK := Lib.hid hK
  clear hK
  go_enter Try.func345, Try.ntmps345
  go_wp2_with (go_at_call 289; refine (hF.out _).mono ?_; rintro e w1 ⟨vl, rfl, howl, hb1⟩; obtain ⟨base, cap, rfl⟩ := own_shape howl)
  obtain ⟨B, hB⟩ : ∃ B : Nat, B = (w.alloc (.cells #[] 275)).heap.size := ⟨_, rfl⟩
  rw [← hB] at howl
  have hz1' := hb1.size
  go_loopw [3, 15] (fun v i wr => ChSt P B (.slice base P.length cap) w v i wr) (fun _ i _ => P.length - (intOf i).toNat)
  case atStart => exact ⟨0, rfl, Nat.zero_le _, own_call hb1 (own_empty (Nat.le_refl _)), howl, apart_below howl (by simp [hB]), (by repeat (first | with_reducible exact Below.refl _ _ | with_reducible assumption | with_reducible apply Below.drew | with_reducible apply below_drewN | (with_reducible apply below_setp; (first | omega | (simp <;> omega))) | (with_reducible apply below_allocp; (first | omega | (simp <;> omega))) | (with_reducible refine below_viap (by assumption) ?_ ?_; (first | omega | (simp <;> omega)))))⟩
  case round =>
    clear howl hb1 hz1'
    obtain ⟨k, rfl, hk, hown, howl, hap, hbel⟩ := hrel
    by_cases hlt : k < P.length
    · obtain ⟨g, rfl, hg2, d1⟩ := own_elemI howl hlt
      have hft := chP_take hlt
      have hPl : (chP (P.take k)).length ≤ 900000 := by have := chP_len (P.take k); rw [List.length_take] at this; omega
      obtain ⟨f, hf⟩ : ∃ f, P[k] = f := ⟨_, rfl⟩
      rw [hf] at d1 hft
      generalize hQ : chP (P.take k) = Q at *
      have hz := hbel.size
      by_cases h3 : 2 < f
      · have hx := Lib.hid (hft.trans (by rw [if_pos h3]))
        clear hft hf hQ
        go_wp2_with (at_builtin; refine wpList_append_own_at _ rfl (.tmp 21) (.tmp 24) 272 rfl w.heap.size 275 i0 _ 2 16 Try.underlying272 hi hz0 hz1 hz2 rfl (by decide) u3 Q.length (cellsC Q) rfl ?_ ⟨wr.heap.size, 0, none⟩ 1 1 [.int .i64 1, .int .i64 f] rfl rfl ?_ (one2 _ _) ?_ ?_ ?_ ?_; exact (by repeat (first | with_reducible assumption | with_reducible apply own_alloc | with_reducible apply own_drew | with_reducible apply own_drewN | (with_reducible refine own_setp (by assumption) ?_ ?_; (first | omega | (simp <;> omega))) | (with_reducible refine own_call (by assumption) ?_))); exact cellsB (Blk.new_at (by simp)); (unfold maxLen; omega); omega; (simp; omega); intro x2 w2 hown2 hg3 _ hloc)
        have hb2 : Below w.heap.size w w2 := below_grown (own_ge hown) (by simp; omega) hg3 (by repeat (first | with_reducible exact Below.refl _ _ | with_reducible assumption | with_reducible apply Below.drew | with_reducible apply below_drewN | (with_reducible apply below_setp; (first | omega | (simp <;> omega))) | (with_reducible apply below_allocp; (first | omega | (simp <;> omega))) | (with_reducible refine below_viap (by assumption) ?_ ?_; (first | omega | (simp <;> omega)))))
        have ho2 : w2.ownsRow w.heap.size 275 2 x2 (chP (P.take (k + 1))).length (cellsC (chP (P.take (k + 1)))) := own_snocC hx.out hown2
        have hol1 : (wr.alloc (Obj.cells #[Value.int IntKind.i64 1, Value.int IntKind.i64 f] 275)).ownsRow B 3 1 (.slice (some ⟨g, 0, none⟩) P.length cap) P.length (cellsI P) := own_alloc howl
        have hol2 := hol1.kept hg3 hap
        have hap2 := apart_next hap hol1 (Nat.le_refl _) hloc
        clear hg3 hown2 hown hbel howl hap hol1 hloc
        go_wp2
        go_roundw
        case rel => exact ⟨k + 1, rfl, hlt, ho2, hol2, hap2, hb2⟩
        case measure => simp [intOf]; omega
      · have hx := Lib.hid (hft.trans (by rw [if_neg h3, List.append_nil]))
        clear hft hf hQ
        go_wp2
        go_roundw
        case rel => exact ⟨k + 1, rfl, hlt, by rw [hx.out]; exact hown, howl, hap, hbel⟩
        case measure => simp [intOf]; omega
    · have e : k = P.length := by omega
      have hx : chP (P.take k) = chP P := by rw [e, List.take_length]
      rw [hx] at hown
      have hz := hbel.size
      have hPl := Nat.le_trans (chP_len P) hl
      clear hx howl hap
      subst e
      generalize chP P = Q at *
      by_cases hodd : m % 2 = 1
      · have e1 : (m.tmod 2 != 0) = true := by rw [bne_iff_ne, Int.tmod_eq_emod_of_nonneg (by omega)]; omega
        have e2 : (m % 2 != 0) = true := by rw [bne_iff_ne]; omega
        have hq := Lib.hid (show K = Q by rw [← HK.out]; unfold tailC; rw [if_pos hodd, List.append_nil])
        have e3 : ((-(m % 2)) != 0) = true := by rw [bne_iff_ne]; omega
        clear hodd
        go_wp2
        go_ret
        exact ⟨_, rfl, by rw [hq.out]; exact hown, hbel⟩
      · have e2 : m % 2 = 0 := by omega
        obtain ⟨n, hn⟩ : ∃ n, m / 4 = n := ⟨_, rfl⟩
        have hn0 : 0 ≤ n := by omega
        have hr : n % 8 = 0 ∨ n % 8 = 1 ∨ n % 8 = 2 ∨ n % 8 = 3 ∨ n % 8 = 4 ∨ n % 8 = 5 ∨ n % 8 = 6 ∨ n % 8 = 7 := by omega
        have hT : K = Q ++ (if n % 8 = 1 ∨ n % 8 = 5 ∨ n % 8 = 4 then [(2, 0)] else if n % 8 = 2 then [(4, 0)] else if n % 8 = 6 then [(3, 0)] else if n % 8 = 0 then [(2, 0), (3, 0)] else []) := by
          rw [← HK.out]; unfold tailC; rw [if_neg hodd, hn]
        clear hodd
        rcases hr with hr | hr | hr | hr | hr | hr | hr | hr
        · have hx := Lib.hid (show K = Q ++ [(2, 0), (3, 0)] by rw [hT, hr]; simp)
          have hr4 : n % 4 = 0 := by omega
          clear hT
          go_wp2_with (at_builtin; refine wpList_append_own_at _ rfl (.tmp 61) (.tmp 64) 272 rfl w.heap.size 275 i0 _ 2 16 Try.underlying272 hi hz0 hz1 hz2 rfl (by decide) u3 Q.length (cellsC Q) rfl ?_ ⟨wr.heap.size + 1 + 1 + 1, 0, none⟩ 2 2 [.int .i64 2, .int .i64 0, .int .i64 3, .int .i64 0] rfl rfl ?_ (one4 _ _ _ _) ?_ ?_ ?_ ?_; exact (by repeat (first | with_reducible assumption | with_reducible apply own_alloc | with_reducible apply own_drew | with_reducible apply own_drewN | (with_reducible refine own_setp (by assumption) ?_ ?_; (first | omega | (simp <;> omega))) | (with_reducible refine own_call (by assumption) ?_))); exact cellsB (Blk.new_at (by simp)); (unfold maxLen; omega); omega; (simp; omega); intro x2 w2 hown2 hg3 _ hloc)
          have hb2 : Below w.heap.size w w2 := below_grown (own_ge hown) (by simp; omega) hg3 (by repeat (first | with_reducible exact Below.refl _ _ | with_reducible assumption | with_reducible apply Below.drew | with_reducible apply below_drewN | (with_reducible apply below_setp; (first | omega | (simp <;> omega))) | (with_reducible apply below_allocp; (first | omega | (simp <;> omega))) | (with_reducible refine below_viap (by assumption) ?_ ?_; (first | omega | (simp <;> omega)))))
          have ho2 := own_snocC2 hx.out hown2
          clear hg3 hown2 hown hbel
          go_wp2
          go_ret
          exact ⟨_, rfl, ho2, hb2⟩
        · have hx := Lib.hid (show K = Q ++ [(2, 0)] by rw [hT, hr]; simp)
          have hr4 : n % 4 = 1 := by omega
          clear hT
          go_wp2_with (at_builtin; refine wpList_append_own_at _ rfl (.tmp 43) (.tmp 45) 272 rfl w.heap.size 275 i0 _ 2 16 Try.underlying272 hi hz0 hz1 hz2 rfl (by decide) u3 Q.length (cellsC Q) rfl ?_ ⟨wr.heap.size + 1 + 1 + 1, 0, none⟩ 1 1 [.int .i64 2, .int .i64 0] rfl rfl ?_ (one2 _ _) ?_ ?_ ?_ ?_; exact (by repeat (first | with_reducible assumption | with_reducible apply own_alloc | with_reducible apply own_drew | with_reducible apply own_drewN | (with_reducible refine own_setp (by assumption) ?_ ?_; (first | omega | (simp <;> omega))) | (with_reducible refine own_call (by assumption) ?_))); exact cellsB (Blk.new_at (by simp)); (unfold maxLen; omega); omega; (simp; omega); intro x2 w2 hown2 hg3 _ hloc)
          have hb2 : Below w.heap.size w w2 := below_grown (own_ge hown) (by simp; omega) hg3 (by repeat (first | with_reducible exact Below.refl _ _ | with_reducible assumption | with_reducible apply Below.drew | with_reducible apply below_drewN | (with_reducible apply below_setp; (first | omega | (simp <;> omega))) | (with_reducible apply below_allocp; (first | omega | (simp <;> omega))) | (with_reducible refine below_viap (by assumption) ?_ ?_; (first | omega | (simp <;> omega)))))
          have ho2 := own_snocC hx.out hown2
          clear hg3 hown2 hown hbel
          go_wp2
          go_ret
          exact ⟨_, rfl, ho2, hb2⟩
        · have hx := Lib.hid (show K = Q ++ [(4, 0)] by rw [hT, hr]; simp)
          have hr4 : n % 4 = 2 := by omega
          clear hT
          go_wp2_with (at_builtin; refine wpList_append_own_at _ rfl (.tmp 49) (.tmp 51) 272 rfl w.heap.size 275 i0 _ 2 16 Try.underlying272 hi hz0 hz1 hz2 rfl (by decide) u3 Q.length (cellsC Q) rfl ?_ ⟨wr.heap.size + 1 + 1 + 1, 0, none⟩ 1 1 [.int .i64 4, .int .i64 0] rfl rfl ?_ (one2 _ _) ?_ ?_ ?_ ?_; exact (by repeat (first | with_reducible assumption | with_reducible apply own_alloc | with_reducible apply own_drew | with_reducible apply own_drewN | (with_reducible refine own_setp (by assumption) ?_ ?_; (first | omega | (simp <;> omega))) | (with_reducible refine own_call (by assumption) ?_))); exact cellsB (Blk.new_at (by simp)); (unfold maxLen; omega); omega; (simp; omega); intro x2 w2 hown2 hg3 _ hloc)
          have hb2 : Below w.heap.size w w2 := below_grown (own_ge hown) (by simp; omega) hg3 (by repeat (first | with_reducible exact Below.refl _ _ | with_reducible assumption | with_reducible apply Below.drew | with_reducible apply below_drewN | (with_reducible apply below_setp; (first | omega | (simp <;> omega))) | (with_reducible apply below_allocp; (first | omega | (simp <;> omega))) | (with_reducible refine below_viap (by assumption) ?_ ?_; (first | omega | (simp <;> omega)))))
          have ho2 := own_snocC hx.out hown2
          clear hg3 hown2 hown hbel
          go_wp2
          go_ret
          exact ⟨_, rfl, ho2, hb2⟩
        · have hx := Lib.hid (show K = Q ++ [] by rw [hT, hr]; simp)
          have hr4 : n % 4 = 3 := by omega
          clear hT
          go_wp2
          go_ret
          exact ⟨_, rfl, by rw [hx.out, List.append_nil]; exact own_alloc (own_alloc (own_alloc hown)), (by repeat (first | with_reducible exact Below.refl _ _ | with_reducible assumption | with_reducible apply Below.drew | with_reducible apply below_drewN | (with_reducible apply below_setp; (first | omega | (simp <;> omega))) | (with_reducible apply below_allocp; (first | omega | (simp <;> omega))) | (with_reducible refine below_viap (by assumption) ?_ ?_; (first | omega | (simp <;> omega)))))⟩
        · have hx := Lib.hid (show K = Q ++ [(2, 0)] by rw [hT, hr]; simp)
          have hr4 : n % 4 = 0 := by omega
          clear hT
          go_wp2_with (at_builtin; refine wpList_append_own_at _ rfl (.tmp 43) (.tmp 45) 272 rfl w.heap.size 275 i0 _ 2 16 Try.underlying272 hi hz0 hz1 hz2 rfl (by decide) u3 Q.length (cellsC Q) rfl ?_ ⟨wr.heap.size + 1 + 1 + 1, 0, none⟩ 1 1 [.int .i64 2, .int .i64 0] rfl rfl ?_ (one2 _ _) ?_ ?_ ?_ ?_; exact (by repeat (first | with_reducible assumption | with_reducible apply own_alloc | with_reducible apply own_drew | with_reducible apply own_drewN | (with_reducible refine own_setp (by assumption) ?_ ?_; (first | omega | (simp <;> omega))) | (with_reducible refine own_call (by assumption) ?_))); exact cellsB (Blk.new_at (by simp)); (unfold maxLen; omega); omega; (simp; omega); intro x2 w2 hown2 hg3 _ hloc)
          have hb2 : Below w.heap.size w w2 := below_grown (own_ge hown) (by simp; omega) hg3 (by repeat (first | with_reducible exact Below.refl _ _ | with_reducible assumption | with_reducible apply Below.drew | with_reducible apply below_drewN | (with_reducible apply below_setp; (first | omega | (simp <;> omega))) | (with_reducible apply below_allocp; (first | omega | (simp <;> omega))) | (with_reducible refine below_viap (by assumption) ?_ ?_; (first | omega | (simp <;> omega)))))
          have ho2 := own_snocC hx.out hown2
          clear hg3 hown2 hown hbel
          go_wp2
          go_ret
          exact ⟨_, rfl, ho2, hb2⟩
        · have hx := Lib.hid (show K = Q ++ [(2, 0)] by rw [hT, hr]; simp)
          have hr4 : n % 4 = 1 := by omega
          clear hT
          go_wp2_with (at_builtin; refine wpList_append_own_at _ rfl (.tmp 43) (.tmp 45) 272 rfl w.heap.size 275 i0 _ 2 16 Try.underlying272 hi hz0 hz1 hz2 rfl (by decide) u3 Q.length (cellsC Q) rfl ?_ ⟨wr.heap.size + 1 + 1 + 1, 0, none⟩ 1 1 [.int .i64 2, .int .i64 0] rfl rfl ?_ (one2 _ _) ?_ ?_ ?_ ?_; exact (by repeat (first | with_reducible assumption | with_reducible apply own_alloc | with_reducible apply own_drew | with_reducible apply own_drewN | (with_reducible refine own_setp (by assumption) ?_ ?_; (first | omega | (simp <;> omega))) | (with_reducible refine own_call (by assumption) ?_))); exact cellsB (Blk.new_at (by simp)); (unfold maxLen; omega); omega; (simp; omega); intro x2 w2 hown2 hg3 _ hloc)
          have hb2 : Below w.heap.size w w2 := below_grown (own_ge hown) (by simp; omega) hg3 (by repeat (first | with_reducible exact Below.refl _ _ | with_reducible assumption | with_reducible apply Below.drew | with_reducible apply below_drewN | (with_reducible apply below_setp; (first | omega | (simp <;> omega))) | (with_reducible apply below_allocp; (first | omega | (simp <;> omega))) | (with_reducible refine below_viap (by assumption) ?_ ?_; (first | omega | (simp <;> omega)))))
          have ho2 := own_snocC hx.out hown2
          clear hg3 hown2 hown hbel
          go_wp2
          go_ret
          exact ⟨_, rfl, ho2, hb2⟩
        · have hx := Lib.hid (show K = Q ++ [(3, 0)] by rw [hT, hr]; simp)
          have hr4 : n % 4 = 2 := by omega
          clear hT
          go_wp2_with (at_builtin; refine wpList_append_own_at _ rfl (.tmp 55) (.tmp 57) 272 rfl w.heap.size 275 i0 _ 2 16 Try.underlying272 hi hz0 hz1 hz2 rfl (by decide) u3 Q.length (cellsC Q) rfl ?_ ⟨wr.heap.size + 1 + 1 + 1, 0, none⟩ 1 1 [.int .i64 3, .int .i64 0] rfl rfl ?_ (one2 _ _) ?_ ?_ ?_ ?_; exact (by repeat (first | with_reducible assumption | with_reducible apply own_alloc | with_reducible apply own_drew | with_reducible apply own_drewN | (with_reducible refine own_setp (by assumption) ?_ ?_; (first | omega | (simp <;> omega))) | (with_reducible refine own_call (by assumption) ?_))); exact cellsB (Blk.new_at (by simp)); (unfold maxLen; omega); omega; (simp; omega); intro x2 w2 hown2 hg3 _ hloc)
          have hb2 : Below w.heap.size w w2 := below_grown (own_ge hown) (by simp; omega) hg3 (by repeat (first | with_reducible exact Below.refl _ _ | with_reducible assumption | with_reducible apply Below.drew | with_reducible apply below_drewN | (with_reducible apply below_setp; (first | omega | (simp <;> omega))) | (with_reducible apply below_allocp; (first | omega | (simp <;> omega))) | (with_reducible refine below_viap (by assumption) ?_ ?_; (first | omega | (simp <;> omega)))))
          have ho2 := own_snocC hx.out hown2
          clear hg3 hown2 hown hbel
          go_wp2
          go_ret
          exact ⟨_, rfl, ho2, hb2⟩
        · have hx := Lib.hid (show K = Q ++ [] by rw [hT, hr]; simp)
          have hr4 : n % 4 = 3 := by omega
          clear hT
          go_wp2
          go_ret
          exact ⟨_, rfl, by rw [hx.out, List.append_nil]; exact own_alloc (own_alloc (own_alloc hown)), (by repeat (first | with_reducible exact Below.refl _ _ | with_reducible assumption | with_reducible apply Below.drew | with_reducible apply below_drewN | (with_reducible apply below_setp; (first | omega | (simp <;> omega))) | (with_reducible apply below_allocp; (first | omega | (simp <;> omega))) | (with_reducible refine below_viap (by assumption) ?_ ?_; (first | omega | (simp <;> omega)))))⟩

set_option maxRecDepth 100000 in
set_option maxHeartbeats 6400000 in
theorem chAll_any (m : Int) (w : World) (h1 : 1 ≤ m) (h2 : m ≤ 200000) : Calls Try.prog 325 #[.int .i64 (-m)] w (RetC (chars m) w) := by
  obtain ⟨i0, hi, hz0, hz1, hz2⟩ := info_parts infoChar
  have hl := prims_len m h2
  have hF := Lib.hid (fun w => nuPrimes_any m w h1 (by omega))
  obtain ⟨K, hK⟩ : ∃ K, chars m = K := ⟨_, rfl⟩
  rw [hK]
  unfold chars at hK
  generalize prims m = P at *
  have HK := Lib.hid hK
  clear hK
  go_enter Try.func325, Try.ntmps325
  go_wp2_with (go_at_call 286; refine (hF.out _).mono ?_; rintro e w1 ⟨vl, rfl, howl, hb1⟩; obtain ⟨base, cap, rfl⟩ := own_shape howl)
  obtain ⟨B, hB⟩ : ∃ B : Nat, B = w.heap.size := ⟨_, rfl⟩
  rw [← hB] at howl
  have hz1' := hb1.size
  go_loopw [3, 11] (fun v i wr => ChSt P B (.slice base P.length cap) w v i wr) (fun _ i _ => P.length - (intOf i).toNat)
  case atStart => exact ⟨0, rfl, Nat.zero_le _, World.ownsRow_nil _ _ _ _, howl, apart_nil, (by repeat (first | with_reducible exact Below.refl _ _ | with_reducible assumption | with_reducible apply Below.drew | with_reducible apply below_drewN | (with_reducible apply below_setp; (first | omega | (simp <;> omega))) | (with_reducible apply below_allocp; (first | omega | (simp <;> omega))) | (with_reducible refine below_viap (by assumption) ?_ ?_; (first | omega | (simp <;> omega)))))⟩
  case round =>
    clear howl hb1 hz1'
    obtain ⟨k, rfl, hk, hown, howl, hap, hbel⟩ := hrel
    by_cases hlt : k < P.length
    · obtain ⟨g, rfl, hg2, d1⟩ := own_elemI howl hlt
      have hft := chP_take hlt
      have hPl : (chP (P.take k)).length ≤ 900000 := by have := chP_len (P.take k); rw [List.length_take] at this; omega
      obtain ⟨f, hf⟩ : ∃ f, P[k] = f := ⟨_, rfl⟩
      rw [hf] at d1 hft
      generalize hQ : chP (P.take k) = Q at *
      have hz := hbel.size
      by_cases h3 : 2 < f
      · have hx := Lib.hid (hft.trans (by rw [if_pos h3]))
        clear hft hf hQ
        go_wp2_with (at_builtin; refine wpList_append_own_at _ rfl (.tmp 17) (.tmp 20) 272 rfl w.heap.size 275 i0 _ 2 16 Try.underlying272 hi hz0 hz1 hz2 rfl (by decide) u3 Q.length (cellsC Q) rfl ?_ ⟨wr.heap.size, 0, none⟩ 1 1 [.int .i64 1, .int .i64 f] rfl rfl ?_ (one2 _ _) ?_ ?_ ?_ ?_; exact (by repeat (first | with_reducible assumption | with_reducible apply own_alloc | with_reducible apply own_drew | with_reducible apply own_drewN | (with_reducible refine own_setp (by assumption) ?_ ?_; (first | omega | (simp <;> omega))) | (with_reducible refine own_call (by assumption) ?_))); exact cellsB (Blk.new_at (by simp)); (unfold maxLen; omega); omega; (simp; omega); intro x2 w2 hown2 hg3 _ hloc)
        have hb2 : Below w.heap.size w w2 := below_grown (own_ge hown) (by simp; omega) hg3 (by repeat (first | with_reducible exact Below.refl _ _ | with_reducible assumption | with_reducible apply Below.drew | with_reducible apply below_drewN | (with_reducible apply below_setp; (first | omega | (simp <;> omega))) | (with_reducible apply below_allocp; (first | omega | (simp <;> omega))) | (with_reducible refine below_viap (by assumption) ?_ ?_; (first | omega | (simp <;> omega)))))
        have ho2 : w2.ownsRow w.heap.size 275 2 x2 (chP (P.take (k + 1))).length (cellsC (chP (P.take (k + 1)))) := own_snocC hx.out hown2
        have hol1 : (wr.alloc (Obj.cells #[Value.int IntKind.i64 1, Value.int IntKind.i64 f] 275)).ownsRow B 3 1 (.slice (some ⟨g, 0, none⟩) P.length cap) P.length (cellsI P) := own_alloc howl
        have hol2 := hol1.kept hg3 hap
        have hap2 := apart_next hap hol1 (Nat.le_refl _) hloc
        clear hg3 hown2 hown hbel howl hap hol1 hloc
        go_wp2
        go_roundw
        case rel => exact ⟨k + 1, rfl, hlt, ho2, hol2, hap2, hb2⟩
        case measure => simp [intOf]; omega
      · have hx := Lib.hid (hft.trans (by rw [if_neg h3, List.append_nil]))
        clear hft hf hQ
        go_wp2
        go_roundw
        case rel => exact ⟨k + 1, rfl, hlt, by rw [hx.out]; exact hown, howl, hap, hbel⟩
        case measure => simp [intOf]; omega
    · have e : k = P.length := by omega
      have hx : chP (P.take k) = chP P := by rw [e, List.take_length]
      rw [hx] at hown
      have hz := hbel.size
      have hPl := Nat.le_trans (chP_len P) hl
      clear hx howl hap
      subst e
      generalize chP P = Q at *
      by_cases hodd : m % 2 = 1
      · have e1 : (m.tmod 2 != 0) = true := by rw [bne_iff_ne, Int.tmod_eq_emod_of_nonneg (by omega)]; omega
        have e2 : (m % 2 != 0) = true := by rw [bne_iff_ne]; omega
        have hq := Lib.hid (show K = Q by rw [← HK.out]; unfold tailC; rw [if_pos hodd, List.append_nil])
        have e3 : ((-(m % 2)) != 0) = true := by rw [bne_iff_ne]; omega
        clear hodd
        go_wp2
        go_ret
        exact ⟨_, rfl, by rw [hq.out]; exact hown, hbel⟩
      · have e2 : m % 2 = 0 := by omega
        obtain ⟨n, hn⟩ : ∃ n, m / 4 = n := ⟨_, rfl⟩
        have hn0 : 0 ≤ n := by omega
        have hr : n % 8 = 0 ∨ n % 8 = 1 ∨ n % 8 = 2 ∨ n % 8 = 3 ∨ n % 8 = 4 ∨ n % 8 = 5 ∨ n % 8 = 6 ∨ n % 8 = 7 := by omega
        have hT : K = Q ++ (if n % 8 = 1 ∨ n % 8 = 5 ∨ n % 8 = 4 then [(2, 0)] else if n % 8 = 2 then [(4, 0)] else if n % 8 = 6 then [(3, 0)] else if n % 8 = 0 then [(2, 0), (3, 0)] else []) := by
          rw [← HK.out]; unfold tailC; rw [if_neg hodd, hn]
        clear hodd
        rcases hr with hr | hr | hr | hr | hr | hr | hr | hr
        · have hx := Lib.hid (show K = Q ++ [(2, 0), (3, 0)] by rw [hT, hr]; simp)
          have hr4 : n % 4 = 0 := by omega
          clear hT
          go_wp2_with (at_builtin; refine wpList_append_own_at _ rfl (.tmp 64) (.tmp 67) 272 rfl w.heap.size 275 i0 _ 2 16 Try.underlying272 hi hz0 hz1 hz2 rfl (by decide) u3 Q.length (cellsC Q) rfl ?_ ⟨wr.heap.size, 0, none⟩ 2 2 [.int .i64 2, .int .i64 0, .int .i64 3, .int .i64 0] rfl rfl ?_ (one4 _ _ _ _) ?_ ?_ ?_ ?_; exact (by repeat (first | with_reducible assumption | with_reducible apply own_alloc | with_reducible apply own_drew | with_reducible apply own_drewN | (with_reducible refine own_setp (by assumption) ?_ ?_; (first | omega | (simp <;> omega))) | (with_reducible refine own_call (by assumption) ?_))); exact cellsB (Blk.new_at (by simp)); (unfold maxLen; omega); omega; (simp; omega); intro x2 w2 hown2 hg3 _ hloc)
          have hb2 : Below w.heap.size w w2 := below_grown (own_ge hown) (by simp; omega) hg3 (by repeat (first | with_reducible exact Below.refl _ _ | with_reducible assumption | with_reducible apply Below.drew | with_reducible apply below_drewN | (with_reducible apply below_setp; (first | omega | (simp <;> omega))) | (with_reducible apply below_allocp; (first | omega | (simp <;> omega))) | (with_reducible refine below_viap (by assumption) ?_ ?_; (first | omega | (simp <;> omega)))))
          have ho2 := own_snocC2 hx.out hown2
          clear hg3 hown2 hown hbel
          go_wp2
          go_ret
          exact ⟨_, rfl, ho2, hb2⟩
        · have hx := Lib.hid (show K = Q ++ [(2, 0)] by rw [hT, hr]; simp)
          have hr4 : n % 4 = 1 := by omega
          clear hT
          go_wp2_with (at_builtin; refine wpList_append_own_at _ rfl (.tmp 44) (.tmp 46) 272 rfl w.heap.size 275 i0 _ 2 16 Try.underlying272 hi hz0 hz1 hz2 rfl (by decide) u3 Q.length (cellsC Q) rfl ?_ ⟨wr.heap.size, 0, none⟩ 1 1 [.int .i64 2, .int .i64 0] rfl rfl ?_ (one2 _ _) ?_ ?_ ?_ ?_; exact (by repeat (first | with_reducible assumption | with_reducible apply own_alloc | with_reducible apply own_drew | with_reducible apply own_drewN | (with_reducible refine own_setp (by assumption) ?_ ?_; (first | omega | (simp <;> omega))) | (with_reducible refine own_call (by assumption) ?_))); exact cellsB (Blk.new_at (by simp)); (unfold maxLen; omega); omega; (simp; omega); intro x2 w2 hown2 hg3 _ hloc)
          have hb2 : Below w.heap.size w w2 := below_grown (own_ge hown) (by simp; omega) hg3 (by repeat (first | with_reducible exact Below.refl _ _ | with_reducible assumption | with_reducible apply Below.drew | with_reducible apply below_drewN | (with_reducible apply below_setp; (first | omega | (simp <;> omega))) | (with_reducible apply below_allocp; (first | omega | (simp <;> omega))) | (with_reducible refine below_viap (by assumption) ?_ ?_; (first | omega | (simp <;> omega)))))
          have ho2 := own_snocC hx.out hown2
          clear hg3 hown2 hown hbel
          go_wp2
          go_ret
          exact ⟨_, rfl, ho2, hb2⟩
        · have hx := Lib.hid (show K = Q ++ [(4, 0)] by rw [hT, hr]; simp)
          have hr4 : n % 4 = 2 := by omega
          clear hT
          go_wp2_with (at_builtin; refine wpList_append_own_at _ rfl (.tmp 52) (.tmp 54) 272 rfl w.heap.size 275 i0 _ 2 16 Try.underlying272 hi hz0 hz1 hz2 rfl (by decide) u3 Q.length (cellsC Q) rfl ?_ ⟨wr.heap.size, 0, none⟩ 1 1 [.int .i64 4, .int .i64 0] rfl rfl ?_ (one2 _ _) ?_ ?_ ?_ ?_; exact (by repeat (first | with_reducible assumption | with_reducible apply own_alloc | with_reducible apply own_drew | with_reducible apply own_drewN | (with_reducible refine own_setp (by assumption) ?_ ?_; (first | omega | (simp <;> omega))) | (with_reducible refine own_call (by assumption) ?_))); exact cellsB (Blk.new_at (by simp)); (unfold maxLen; omega); omega; (simp; omega); intro x2 w2 hown2 hg3 _ hloc)
          have hb2 : Below w.heap.size w w2 := below_grown (own_ge hown) (by simp; omega) hg3 (by repeat (first | with_reducible exact Below.refl _ _ | with_reducible assumption | with_reducible apply Below.drew | with_reducible apply below_drewN | (with_reducible apply below_setp; (first | omega | (simp <;> omega))) | (with_reducible apply below_allocp; (first | omega | (simp <;> omega))) | (with_reducible refine below_viap (by assumption) ?_ ?_; (first | omega | (simp <;> omega)))))
          have ho2 := own_snocC hx.out hown2
          clear hg3 hown2 hown hbel
          go_wp2
          go_ret
          exact ⟨_, rfl, ho2, hb2⟩
        · have hx := Lib.hid (show K = Q ++ [] by rw [hT, hr]; simp)
          have hr4 : n % 4 = 3 := by omega
          clear hT
          go_wp2
          go_ret
          exact ⟨_, rfl, by rw [hx.out, List.append_nil]; exact hown, (by repeat (first | with_reducible exact Below.refl _ _ | with_reducible assumption | with_reducible apply Below.drew | with_reducible apply below_drewN | (with_reducible apply below_setp; (first | omega | (simp <;> omega))) | (with_reducible apply below_allocp; (first | omega | (simp <;> omega))) | (with_reducible refine below_viap (by assumption) ?_ ?_; (first | omega | (simp <;> omega)))))⟩
        · have hx := Lib.hid (show K = Q ++ [(2, 0)] by rw [hT, hr]; simp)
          have hr4 : n % 4 = 0 := by omega
          clear hT
          go_wp2_with (at_builtin; refine wpList_append_own_at _ rfl (.tmp 44) (.tmp 46) 272 rfl w.heap.size 275 i0 _ 2 16 Try.underlying272 hi hz0 hz1 hz2 rfl (by decide) u3 Q.length (cellsC Q) rfl ?_ ⟨wr.heap.size, 0, none⟩ 1 1 [.int .i64 2, .int .i64 0] rfl rfl ?_ (one2 _ _) ?_ ?_ ?_ ?_; exact (by repeat (first | with_reducible assumption | with_reducible apply own_alloc | with_reducible apply own_drew | with_reducible apply own_drewN | (with_reducible refine own_setp (by assumption) ?_ ?_; (first | omega | (simp <;> omega))) | (with_reducible refine own_call (by assumption) ?_))); exact cellsB (Blk.new_at (by simp)); (unfold maxLen; omega); omega; (simp; omega); intro x2 w2 hown2 hg3 _ hloc)
          have hb2 : Below w.heap.size w w2 := below_grown (own_ge hown) (by simp; omega) hg3 (by repeat (first | with_reducible exact Below.refl _ _ | with_reducible assumption | with_reducible apply Below.drew | with_reducible apply below_drewN | (with_reducible apply below_setp; (first | omega | (simp <;> omega))) | (with_reducible apply below_allocp; (first | omega | (simp <;> omega))) | (with_reducible refine below_viap (by assumption) ?_ ?_; (first | omega | (simp <;> omega)))))
          have ho2 := own_snocC hx.out hown2
          clear hg3 hown2 hown hbel
          go_wp2
          go_ret
          exact ⟨_, rfl, ho2, hb2⟩
        · have hx := Lib.hid (show K = Q ++ [(2, 0)] by rw [hT, hr]; simp)
          have hr4 : n % 4 = 1 := by omega
          clear hT
          go_wp2_with (at_builtin; refine wpList_append_own_at _ rfl (.tmp 44) (.tmp 46) 272 rfl w.heap.size 275 i0 _ 2 16 Try.underlying272 hi hz0 hz1 hz2 rfl (by decide) u3 Q.length (cellsC Q) rfl ?_ ⟨wr.heap.size, 0, none⟩ 1 1 [.int .i64 2, .int .i64 0] rfl rfl ?_ (one2 _ _) ?_ ?_ ?_ ?_; exact (by repeat (first | with_reducible assumption | with_reducible apply own_alloc | with_reducible apply own_drew | with_reducible apply own_drewN | (with_reducible refine own_setp (by assumption) ?_ ?_; (first | omega | (simp <;> omega))) | (with_reducible refine own_call (by assumption) ?_))); exact cellsB (Blk.new_at (by simp)); (unfold maxLen; omega); omega; (simp; omega); intro x2 w2 hown2 hg3 _ hloc)
          have hb2 : Below w.heap.size w w2 := below_grown (own_ge hown) (by simp; omega) hg3 (by repeat (first | with_reducible exact Below.refl _ _ | with_reducible assumption | with_reducible apply Below.drew | with_reducible apply below_drewN | (with_reducible apply below_setp; (first | omega | (simp <;> omega))) | (with_reducible apply below_allocp; (first | omega | (simp <;> omega))) | (with_reducible refine below_viap (by assumption) ?_ ?_; (first | omega | (simp <;> omega)))))
          have ho2 := own_snocC hx.out hown2
          clear hg3 hown2 hown hbel
          go_wp2
          go_ret
          exact ⟨_, rfl, ho2, hb2⟩
        · have hx := Lib.hid (show K = Q ++ [(3, 0)] by rw [hT, hr]; simp)
          have hr4 : n % 4 = 2 := by omega
          clear hT
          go_wp2_with (at_builtin; refine wpList_append_own_at _ rfl (.tmp 60) (.tmp 62) 272 rfl w.heap.size 275 i0 _ 2 16 Try.underlying272 hi hz0 hz1 hz2 rfl (by decide) u3 Q.length (cellsC Q) rfl ?_ ⟨wr.heap.size, 0, none⟩ 1 1 [.int .i64 3, .int .i64 0] rfl rfl ?_ (one2 _ _) ?_ ?_ ?_ ?_; exact (by repeat (first | with_reducible assumption | with_reducible apply own_alloc | with_reducible apply own_drew | with_reducible apply own_drewN | (with_reducible refine own_setp (by assumption) ?_ ?_; (first | omega | (simp <;> omega))) | (with_reducible refine own_call (by assumption) ?_))); exact cellsB (Blk.new_at (by simp)); (unfold maxLen; omega); omega; (simp; omega); intro x2 w2 hown2 hg3 _ hloc)
          have hb2 : Below w.heap.size w w2 := below_grown (own_ge hown) (by simp; omega) hg3 (by repeat (first | with_reducible exact Below.refl _ _ | with_reducible assumption | with_reducible apply Below.drew | with_reducible apply below_drewN | (with_reducible apply below_setp; (first | omega | (simp <;> omega))) | (with_reducible apply below_allocp; (first | omega | (simp <;> omega))) | (with_reducible refine below_viap (by assumption) ?_ ?_; (first | omega | (simp <;> omega)))))
          have ho2 := own_snocC hx.out hown2
          clear hg3 hown2 hown hbel
          go_wp2
          go_ret
          exact ⟨_, rfl, ho2, hb2⟩
        · have hx := Lib.hid (show K = Q ++ [] by rw [hT, hr]; simp)
          have hr4 : n % 4 = 3 := by omega
          clear hT
          go_wp2
          go_ret
          exact ⟨_, rfl, by rw [hx.out, List.append_nil]; exact hown, (by repeat (first | with_reducible exact Below.refl _ _ | with_reducible assumption | with_reducible apply Below.drew | with_reducible apply below_drewN | (with_reducible apply below_setp; (first | omega | (simp <;> omega))) | (with_reducible apply below_allocp; (first | omega | (simp <;> omega))) | (with_reducible refine below_viap (by assumption) ?_ ?_; (first | omega | (simp <;> omega)))))⟩
end

section
open Go.RowKit

/-- A point that is good without regard to its coordinates. -/
def GoodV (a b c n x y : Int) : Prop := Int.gcd (atF a b c x y) n = 1
theorem goodV_min {a b c n x y : Int} (hn : n.natAbs ≠ 1) (h : MinPt (GoodV a b c n) x y) : MinPt (Good a b c n) x y := by
  obtain ⟨x0, y0, hg, hno⟩ := h
  have h1 : Int.gcd x y = 1 := by
    have hx : ((Int.gcd x y : Nat) : Int) ∣ x := Int.gcd_dvd_left _ _
    have hy : ((Int.gcd x y : Nat) : Int) ∣ y := Int.gcd_dvd_right _ _
    generalize hk : Int.gcd x y = k at *
    obtain ⟨u, hu⟩ := hx
    obtain ⟨v, hv⟩ := hy
    by_cases h0 : k = 0
    · subst h0
      simp at hu hv
      subst hu; subst hv
      exfalso
      apply hn
      unfold GoodV atF at hg
      simpa using hg
    · by_cases h1 : k = 1
      · exact h1
      · exfalso
        have hk2 : (2 : Int) ≤ k := by omega
        have hu0 : 0 ≤ u := by
          apply Int.not_lt.1; intro hl
          have : (k : Int) * u ≤ k * (-1) := Int.mul_le_mul_of_nonneg_left (by omega) (by omega)
          omega
        have hv0 : 0 ≤ v := by
          apply Int.not_lt.1; intro hl
          have : (k : Int) * v ≤ k * (-1) := Int.mul_le_mul_of_nonneg_left (by omega) (by omega)
          omega
        have hu2 : 2 * u ≤ x := by rw [hu]; exact Int.mul_le_mul_of_nonneg_right hk2 hu0
        have hv2 : 2 * v ≤ y := by rw [hv]; exact Int.mul_le_mul_of_nonneg_right hk2 hv0
        have hgd : GoodV a b c n u v := by
          unfold GoodV at *
          have e : atF a b c x y = atF a b c u v * ((k : Int) * k) := by rw [hu, hv]; unfold atF; grind
          rw [e] at hg
          have d1 : ((Int.gcd (atF a b c u v) n : Nat) : Int) ∣ atF a b c u v * ((k : Int) * k) := Int.dvd_trans (Int.gcd_dvd_left _ _) (Int.dvd_mul_right _ _)
          have d2 : ((Int.gcd (atF a b c u v) n : Nat) : Int) ∣ n := Int.gcd_dvd_right _ _
          have := Int.dvd_coe_gcd d1 d2
          rw [hg] at this
          exact Nat.dvd_one.1 (Int.ofNat_dvd.1 this)
        have hpos : 0 < x ∨ 0 < y := by
          apply Classical.byContradiction; intro hno2
          have e1 : x = 0 := by omega
          have e2 : y = 0 := by omega
          rw [e1, e2] at hk
          simp at hk; omega
        exact hno u v hu0 hv0 (.inl (by omega)) hgd
  exact ⟨x0, y0, ⟨h1, hg⟩, fun x' y' k1 k2 k3 k4 => hno x' y' k1 k2 k3 k4.2⟩

/-- What comes back: the value at the first good point. -/
def RetV (a b c n : Int) (w : World) (e : Ending) (w' : World) : Prop := ∃ x y, e = .returned (.int .i64 (atF a b c x y)) ∧ MinPt (GoodV a b c n) x y ∧ Below w.heap.size w w'

set_option maxRecDepth 100000 in
set_option maxHeartbeats 3200000 in
theorem chValueF_any (a b c d X Y S : Int) (w : World) (ha : -5000 ≤ a ∧ a ≤ 5000) (hb : -5000 ≤ b ∧ b ≤ 5000) (hc : -5000 ≤ c ∧ c ≤ 5000) (hn : -2400 ≤ d ∧ d ≤ -3) (hdd : disc ⟨a, b, c⟩ = d)
    (hX : 0 ≤ X ∧ X ≤ S) (hY : 0 ≤ Y ∧ Y ≤ S) (hS : S ≤ 4000) (hg : GoodV a b c (2 * d) X Y) :
    Calls Try.prog 296 #[.agg #[.int .i64 a, .int .i64 b, .int .i64 c]] w (RetV a b c (2 * d) w) := by
  have Hle := Lib.hid (fun (i x y : Int) (h : NoB (GoodV a b c (2 * d)) i x y) => h.le hX.1 hY.1 hg)
  have hS1 : 1 ≤ S := by
    apply Int.not_lt.1; intro hl
    have e1 : X = 0 := by omega
    have e2 : Y = 0 := by omega
    rw [e1, e2] at hg
    unfold GoodV atF at hg
    simp at hg
    omega
  have h00 : ¬ GoodV a b c (2 * d) 0 0 := by
    intro h; unfold GoodV atF at h; simp at h; omega
  have H00 := Lib.hid h00
  have kb := mul_bd hb.1 hb.2 hb.1 hb.2
  have kc := mul_bd (a := 4 * a) (x := c) (A := 20000) (X := 5000) (by omega) (by omega) (by omega) (by omega)
  have hD := Lib.hid (fun w => sdisc_any a b c w ⟨by omega, by omega⟩ ⟨by omega, by omega⟩ ⟨by omega, by omega⟩)
  rw [hdd] at hD
  obtain ⟨n, hnd⟩ : ∃ n, 2 * d = n := ⟨_, rfl⟩
  rw [hnd] at hg Hle H00 ⊢
  have n1 : -5000 ≤ n := by omega
  have n2 : n ≤ 5000 := by omega
  have Hg := Lib.hid hg
  clear hg h00 hdd kb kc
  obtain ⟨X0, X1⟩ := hX
  obtain ⟨Y0, Y1⟩ := hY
  go_enter Try.func296, Try.ntmps296
  go_wp2_with (go_at_call 132; (with_reducible refine (hD.out _).mono ?_); rintro e v1 ⟨rfl, hB1⟩; have hZ1 := hB1.size; (try simp at hZ1); (try have zl1 : w.heap.size < v1.heap.size := by omega); (try have ze1 : w.heap.size ≤ v1.heap.size := by omega); (try have zn1 : ¬ w.heap.size = v1.heap.size := by omega); (try have zm1 : ¬ v1.heap.size = w.heap.size := by omega); have hA1 : Blk v1 (w.heap.size) 35 #[.int .i64 a, .int .i64 b, .int .i64 c] := Blk.call (by (repeat (first | with_reducible assumption | (with_reducible apply Blk.new_at; (first | rfl | (simp; done))) | with_reducible apply Blk.store3 | with_reducible apply Blk.store4 | (with_reducible apply Blk.farp; (first | omega | (simp <;> omega))) | with_reducible apply Blk.allocp | with_reducible apply Blk.drew | with_reducible apply Blk.drewN))) hB1; have cA1 := hA1.cell; have fA1 := hA1.frozen; have lA1 := hA1.lt; have mA1 := Nat.ne_of_gt lA1; have nA1 := Nat.ne_of_lt lA1)
  go_loopw [4] (fun s wr => Fp1 (GoodV a b c n) S a b c w s wr) (fun s _ => (5000 - intOf s).toNat)
  case atStart => exact ⟨1, rfl, by omega, by omega, Lib.hid (NoB.one H00.out), by (repeat (first | with_reducible assumption | (with_reducible apply Blk.new_at; (first | rfl | (simp; done))) | with_reducible apply Blk.store3 | with_reducible apply Blk.store4 | (with_reducible apply Blk.farp; (first | omega | (simp <;> omega))) | with_reducible apply Blk.allocp | with_reducible apply Blk.drew | with_reducible apply Blk.drewN)), (by repeat (first | with_reducible exact Below.refl _ _ | with_reducible assumption | with_reducible apply Below.drew | with_reducible apply below_drewN | (with_reducible apply below_setp; (first | omega | (simp <;> omega))) | (with_reducible apply below_allocp; (first | omega | (simp <;> omega))) | (with_reducible refine below_viap (by assumption) ?_ ?_; (first | omega | (simp <;> omega)))))⟩
  case round =>
    obtain ⟨i, rfl, hi0, hi1, hno, hblk, hbel⟩ := hrel
    go_wp2
    obtain ⟨wo, rfl⟩ : ∃ wo : World, wo = wr := ⟨_, rfl⟩
    go_loopw [5] (fun s wx => Fp2 (GoodV a b c n) i a b c w s wx) (fun s _ => (5010 - intOf s).toNat)
    case atStart => exact ⟨0, rfl, by omega, by omega, hno, hblk, hbel⟩
    case round =>
      clear hno hblk hbel
      obtain ⟨x, rfl, hx0, hx1, hno, hblk, hbel⟩ := hrel
      by_cases hxi : x ≤ i
      · go_wp2
        obtain ⟨wp, rfl⟩ : ∃ wp : World, wp = wr := ⟨_, rfl⟩
        go_loopw [6] (fun s wx => Fp3 (GoodV a b c n) i x a b c w s wx) (fun s _ => (5020 - intOf s).toNat)
        case atStart => exact ⟨0, rfl, by omega, by omega, hno, hblk, hbel⟩
        case round =>
          clear hno hblk hbel
          obtain ⟨y, rfl, hy0, hy1, hno, hblk, hbel⟩ := hrel
          by_cases hyi : y ≤ i
          · have hok := at_small ha hb hc (x := x) (y := y) (by omega) (by omega)
            obtain ⟨hv1, hv2⟩ := at_bd ha hb hc (x := x) (y := y) (by omega) (by omega)
            have hC0 := hblk.cell; have hF0 := hblk.frozen
            have hz := hblk.lt
            obtain ⟨v, hv⟩ : ∃ v, atF a b c x y = v := ⟨_, rfl⟩
            have hA := Lib.hid (fun w => foValue_any a b c x y w hok)
            rw [hv] at hA hv1 hv2
            have Hv := Lib.hid hv
            clear hv
            by_cases hm : max x y = i
            · have hor : x = i ∨ (¬ x = i ∧ y = i) := by omega
              by_cases hg2 : Int.gcd v n = 1
              · have e3 : ((Int.gcd v n : Int) == 1) = true := by rw [hg2]; rfl
                have hres : Hid (MinPt (GoodV a b c n) x y) := Lib.hid ⟨hx0, hy0, by unfold GoodV; rw [Hv.out]; exact hg2, by rw [hm]; exact hno.out⟩
                rcases hor with hxx | ⟨hxx, hyy⟩
                · have e1 : (x == i) = true := by rw [beq_iff_eq]; exact hxx
                  clear hm hg2 hno hxx
                  go_wp2_with (first | (go_at_call 220; (with_reducible refine (hA.out _).mono ?_); rintro e v1 ⟨rfl, hB1⟩; have hC1 := (calm_cells hB1).1; have hF1 := (calm_cells hB1).2) | (go_at_call 218; (with_reducible refine (nuGcd_any _ _ _ (by omega) (by omega) (by omega) (by omega)).mono ?_); rintro e v ⟨rfl, nq, rfl⟩))
                  go_ret
                  exact ⟨x, y, ret_int Hv.out.symm, hres.out, (by repeat (first | with_reducible exact Below.refl _ _ | with_reducible assumption | with_reducible apply Below.drew | with_reducible apply below_drewN | (with_reducible apply below_setp; (first | omega | (simp <;> omega))) | (with_reducible apply below_allocp; (first | omega | (simp <;> omega))) | (with_reducible refine below_viap (by assumption) ?_ ?_; (first | omega | (simp <;> omega)))))⟩
                · have e1 : (x == i) = false := by rw [beq_eq_false_iff_ne]; exact hxx
                  have e2 : (y == i) = true := by rw [beq_iff_eq]; exact hyy
                  clear hm hg2 hno hxx hyy
                  go_wp2_with (first | (go_at_call 220; (with_reducible refine (hA.out _).mono ?_); rintro e v1 ⟨rfl, hB1⟩; have hC1 := (calm_cells hB1).1; have hF1 := (calm_cells hB1).2) | (go_at_call 218; (with_reducible refine (nuGcd_any _ _ _ (by omega) (by omega) (by omega) (by omega)).mono ?_); rintro e v ⟨rfl, nq, rfl⟩))
                  go_ret
                  exact ⟨x, y, ret_int Hv.out.symm, hres.out, (by repeat (first | with_reducible exact Below.refl _ _ | with_reducible assumption | with_reducible apply Below.drew | with_reducible apply below_drewN | (with_reducible apply below_setp; (first | omega | (simp <;> omega))) | (with_reducible apply below_allocp; (first | omega | (simp <;> omega))) | (with_reducible refine below_viap (by assumption) ?_ ?_; (first | omega | (simp <;> omega)))))⟩
              · have e3 : ((Int.gcd v n : Int) == 1) = false := by rw [beq_eq_false_iff_ne]; omega
                have hnx := Lib.hid (hno.out.y fun _ h => hg2 (by unfold GoodV at h; rw [Hv.out] at h; exact h))
                rcases hor with hxx | ⟨hxx, hyy⟩
                · have e1 : (x == i) = true := by rw [beq_iff_eq]; exact hxx
                  clear hm hg2 hno hxx
                  go_wp2_with (first | (go_at_call 220; (with_reducible refine (hA.out _).mono ?_); rintro e v1 ⟨rfl, hB1⟩; have hC1 := (calm_cells hB1).1; have hF1 := (calm_cells hB1).2) | (go_at_call 218; (with_reducible refine (nuGcd_any _ _ _ (by omega) (by omega) (by omega) (by omega)).mono ?_); rintro e v ⟨rfl, nq, rfl⟩))
                  go_roundw
                  case rel => exact ⟨y + 1, rfl, by omega, by omega, hnx, by exact Blk.below (w := wr) (B := wr.heap.size) hblk (by repeat (first | with_reducible exact Below.refl _ _ | with_reducible assumption | with_reducible apply Below.drew | with_reducible apply below_drewN | (with_reducible apply below_setp; (first | omega | (simp <;> omega))) | (with_reducible apply below_allocp; (first | omega | (simp <;> omega))) | (with_reducible refine below_viap (by assumption) ?_ ?_; (first | omega | (simp <;> omega))))) hblk.lt, (by repeat (first | with_reducible exact Below.refl _ _ | with_reducible assumption | with_reducible apply Below.drew | with_reducible apply below_drewN | (with_reducible apply below_setp; (first | omega | (simp <;> omega))) | (with_reducible apply below_allocp; (first | omega | (simp <;> omega))) | (with_reducible refine below_viap (by assumption) ?_ ?_; (first | omega | (simp <;> omega)))))⟩
                  case measure => simp [intOf]; omega
                · have e1 : (x == i) = false := by rw [beq_eq_false_iff_ne]; exact hxx
                  have e2 : (y == i) = true := by rw [beq_iff_eq]; exact hyy
                  clear hm hg2 hno hxx hyy
                  go_wp2_with (first | (go_at_call 220; (with_reducible refine (hA.out _).mono ?_); rintro e v1 ⟨rfl, hB1⟩; have hC1 := (calm_cells hB1).1; have hF1 := (calm_cells hB1).2) | (go_at_call 218; (with_reducible refine (nuGcd_any _ _ _ (by omega) (by omega) (by omega) (by omega)).mono ?_); rintro e v ⟨rfl, nq, rfl⟩))
                  go_roundw
                  case rel => exact ⟨y + 1, rfl, by omega, by omega, hnx, by exact Blk.below (w := wr) (B := wr.heap.size) hblk (by repeat (first | with_reducible exact Below.refl _ _ | with_reducible assumption | with_reducible apply Below.drew | with_reducible apply below_drewN | (with_reducible apply below_setp; (first | omega | (simp <;> omega))) | (with_reducible apply below_allocp; (first | omega | (simp <;> omega))) | (with_reducible refine below_viap (by assumption) ?_ ?_; (first | omega | (simp <;> omega))))) hblk.lt, (by repeat (first | with_reducible exact Below.refl _ _ | with_reducible assumption | with_reducible apply Below.drew | with_reducible apply below_drewN | (with_reducible apply below_setp; (first | omega | (simp <;> omega))) | (with_reducible apply below_allocp; (first | omega | (simp <;> omega))) | (with_reducible refine below_viap (by assumption) ?_ ?_; (first | omega | (simp <;> omega)))))⟩
                  case measure => simp [intOf]; omega
            · have e1 : (x == i) = false := by rw [beq_eq_false_iff_ne]; omega
              have e2 : (y == i) = false := by rw [beq_eq_false_iff_ne]; omega
              have hnx := Lib.hid (hno.out.y fun h => absurd h hm)
              clear hm hno
              go_wp2_with (go_at_call 220; (with_reducible refine (hA.out _).mono ?_); rintro e v1 ⟨rfl, hB1⟩; have hC1 := (calm_cells hB1).1; have hF1 := (calm_cells hB1).2)
              go_roundw
              case rel => exact ⟨y + 1, rfl, by omega, by omega, hnx, by exact Blk.below (w := wr) (B := wr.heap.size) hblk (by repeat (first | with_reducible exact Below.refl _ _ | with_reducible assumption | with_reducible apply Below.drew | with_reducible apply below_drewN | (with_reducible apply below_setp; (first | omega | (simp <;> omega))) | (with_reducible apply below_allocp; (first | omega | (simp <;> omega))) | (with_reducible refine below_viap (by assumption) ?_ ?_; (first | omega | (simp <;> omega))))) hblk.lt, (by repeat (first | with_reducible exact Below.refl _ _ | with_reducible assumption | with_reducible apply Below.drew | with_reducible apply below_drewN | (with_reducible apply below_setp; (first | omega | (simp <;> omega))) | (with_reducible apply below_allocp; (first | omega | (simp <;> omega))) | (with_reducible refine below_viap (by assumption) ?_ ?_; (first | omega | (simp <;> omega)))))⟩
              case measure => simp [intOf]; omega
          · have hxn := Lib.hid (hno.out.x (by omega))
            clear hno
            go_wp2
            go_roundw
            case rel => exact ⟨x + 1, rfl, by omega, by omega, hxn, hblk, hbel⟩
            case measure => simp [intOf]; omega
      · have hxn := hno.out.i (by omega)
        have hlt : i + 1 ≤ S := by have := (Hle.out _ _ _ hxn).1; omega
        have Hxn := Lib.hid hxn
        clear hno hxn
        go_wp2
        go_roundw
        case rel => exact ⟨i + 1, rfl, by omega, hlt, Hxn, hblk, hbel⟩
        case measure => simp [intOf]; omega

/-- The values of the assigned characters of -m at n. -/
def vals (m n : Int) : List Int := (chars m).map fun x => chi x n
theorem vals_len (m n : Int) (h : m ≤ 200000) : (vals m n).length ≤ 900002 := by unfold vals; rw [List.length_map]; exact chars_len m h
theorem map_take {g : Int × Int → Int} {C : List (Int × Int)} {k : Nat} (h : k < C.length) : (C.take (k + 1)).map g = (C.take k).map g ++ [g C[k]] := by
  rw [List.take_succ_eq_append_getElem h, List.map_append]; rfl
def VaSt (n : Int) (C : List (Int × Int)) (B : Nat) (vl : Value) (w : World) (v vi : Value) (wr : World) : Prop :=
  ∃ k : Nat, vi = .int .i64 k ∧ k ≤ C.length ∧ wr.ownsRow w.heap.size 3 1 v ((C.take k).map fun x => chi x n).length (cellsI ((C.take k).map fun x => chi x n)) ∧ wr.ownsRow B 275 2 vl C.length (cellsC C) ∧ Apart v vl ∧ Below w.heap.size w wr

set_option maxRecDepth 100000 in
set_option maxHeartbeats 3200000 in
theorem valuesAt_any (d n : Int) (w : World) (h1 : -200000 ≤ d) (h2 : d ≤ -1) (n0 : -1000000000000000 ≤ n) (n1 : n ≤ 1000000000000000) : Calls Try.prog 328 #[.int .i64 d, .int .i64 n] w (RetI (vals (-d) n) w) := by
  obtain ⟨m, rfl⟩ : ∃ m, d = -m := ⟨-d, by omega⟩
  rw [Int.neg_neg]
  obtain ⟨i0, hi, hz0, hz1, hz2⟩ := info_parts infoInt
  have hl := chars_len m (by omega)
  have hok := Lib.hid (chars_ok (m := m) (by omega) (by omega))
  have hF := Lib.hid (fun w => assigned_any m w (by omega) (by omega))
  unfold vals
  generalize chars m = C at *
  go_enter Try.func328, Try.ntmps328
  go_wp2_with (go_at_call 345; refine (hF.out _).mono ?_; rintro e w1 ⟨vl, rfl, howl, hb1⟩; obtain ⟨base, cap, rfl⟩ := own_shape howl)
  obtain ⟨B, hB⟩ : ∃ B : Nat, B = (w.alloc (.cells #[] 3)).heap.size := ⟨_, rfl⟩
  rw [← hB] at howl
  have hz1' := hb1.size
  go_loopw [5, 12] (fun v i wr => VaSt n C B (.slice base C.length cap) w v i wr) (fun _ i _ => C.length - (intOf i).toNat)
  case atStart => exact ⟨0, rfl, Nat.zero_le _, own_call hb1 (own_empty (Nat.le_refl _)), howl, apart_below howl (by simp [hB]), (by repeat (first | with_reducible exact Below.refl _ _ | with_reducible assumption | with_reducible apply Below.drew | with_reducible apply below_drewN | (with_reducible apply below_setp; (first | omega | (simp <;> omega))) | (with_reducible apply below_allocp; (first | omega | (simp <;> omega))) | (with_reducible refine below_viap (by assumption) ?_ ?_; (first | omega | (simp <;> omega)))))⟩
  case round =>
    clear howl hb1 hz1'
    obtain ⟨k, rfl, hk, hown, howl, hap, hbel⟩ := hrel
    by_cases hlt : k < C.length
    · obtain ⟨g, rfl, hg2, d1, d2⟩ := own_elemC howl hlt
      have hx := Lib.hid (map_take (g := fun x => chi x n) hlt)
      have hPl : ((C.take k).map fun x => chi x n).length ≤ 900002 := by rw [List.length_map, List.length_take]; omega
      have hc := hok.out _ (List.getElem_mem hlt)
      generalize C[k] = x at *
      have hV := Lib.hid (fun w => chValue_any x n w hc n0 n1)
      generalize chi x n = t at *
      generalize hQ : (C.take k).map (fun x => chi x n) = Q at *
      have hz := hbel.size
      clear hc hQ
      go_wp2_with (first
        | (go_at_call 346; (with_reducible refine (hV.out _).mono ?_); rintro e v1 ⟨rfl, hB1⟩; have hZ1 := hB1.size; (try simp at hZ1); (try have zl1 : w.heap.size < v1.heap.size := by omega); (try have ze1 : w.heap.size ≤ v1.heap.size := by omega); (try have zn1 : ¬ w.heap.size = v1.heap.size := by omega); (try have zm1 : ¬ v1.heap.size = w.heap.size := by omega); have hC1_0 := fun o => (calm_cells hB1).1 (wr.heap.size) o (by first | omega | (simp <;> omega)); have hF1_0 := fun o => (calm_cells hB1).2 (wr.heap.size) o (by first | omega | (simp <;> omega)); (try have hl1_0 : wr.heap.size < v1.heap.size := by omega); (try have hm1_0 : ¬ wr.heap.size = v1.heap.size := by omega); (try have hn1_0 : ¬ v1.heap.size = wr.heap.size := by omega))
        | (at_builtin; refine wpList_append_own_at _ rfl (.tmp 16) (.tmp 20) 31 rfl w.heap.size 3 i0 _ 1 8 Try.underlying31 hi hz0 hz1 hz2 rfl (by decide) u5 Q.length (cellsI Q) rfl ?_ ⟨v1.heap.size, 0, none⟩ 1 1 [.int .i64 t] rfl rfl ?_ (one1 _) ?_ ?_ ?_ ?_; exact (by repeat (first | with_reducible assumption | with_reducible apply own_alloc | with_reducible apply own_drew | with_reducible apply own_drewN | (with_reducible refine own_setp (by assumption) ?_ ?_; (first | omega | (simp <;> omega))) | (with_reducible refine own_call (by assumption) ?_))); exact cells1 (Blk.new _ _ _); (unfold maxLen; omega); omega; (simp; omega); intro x2 w2 hown2 hg3 _ hloc))
      have hb2 : Below w.heap.size w w2 := below_grown (own_ge hown) (by simp; omega) hg3 (by repeat (first | with_reducible exact Below.refl _ _ | with_reducible assumption | with_reducible apply Below.drew | with_reducible apply below_drewN | (with_reducible apply below_setp; (first | omega | (simp <;> omega))) | (with_reducible apply below_allocp; (first | omega | (simp <;> omega))) | (with_reducible refine below_viap (by assumption) ?_ ?_; (first | omega | (simp <;> omega)))))
      have ho2 : w2.ownsRow w.heap.size 3 1 x2 ((C.take (k + 1)).map fun x => chi x n).length (cellsI ((C.take (k + 1)).map fun x => chi x n)) := own_snocI hx.out hown2
      have hol1 : (v1.alloc (Obj.cells #[Value.int IntKind.i64 t] 3)).ownsRow B 275 2 (.slice (some ⟨g, 0, none⟩) C.length cap) C.length (cellsC C) := (by repeat (first | with_reducible assumption | with_reducible apply own_alloc | with_reducible apply own_drew | with_reducible apply own_drewN | (with_reducible refine own_setp (by assumption) ?_ ?_; (first | omega | (simp <;> omega))) | (with_reducible refine own_call (by assumption) ?_)))
      have hol2 := hol1.kept hg3 hap
      have hap2 := apart_next hap hol1 (Nat.le_refl _) hloc
      clear hg3 hown2 hown hbel howl hap hol1 hloc
      go_wp2
      go_roundw
      case rel => exact ⟨k + 1, rfl, hlt, ho2, hol2, hap2, hb2⟩
      case measure => simp [intOf]; omega
    · have e : k = C.length := by omega
      have hx : (C.take k).map (fun x => chi x n) = C.map (fun x => chi x n) := by rw [e, List.take_length]
      have Hx := Lib.hid hx
      clear hx
      subst e
      go_wp2
      go_ret
      exact ⟨_, rfl, by rw [← Hx.out]; exact hown, hbel⟩

set_option maxRecDepth 100000 in
set_option maxHeartbeats 3200000 in
theorem chList_any (d n : Int) (w : World) (h1 : -200000 ≤ d) (h2 : d ≤ -1) (n0 : -1000000000000000 ≤ n) (n1 : n ≤ 1000000000000000) : Calls Try.prog 295 #[.int .i64 d, .int .i64 n] w (RetI (vals (-d) n) w) := by
  obtain ⟨m, rfl⟩ : ∃ m, d = -m := ⟨-d, by omega⟩
  rw [Int.neg_neg]
  obtain ⟨i0, hi, hz0, hz1, hz2⟩ := info_parts infoInt
  have hl := chars_len m (by omega)
  have hok := Lib.hid (chars_ok (m := m) (by omega) (by omega))
  have hF := Lib.hid (fun w => chAll_any m w (by omega) (by omega))
  unfold vals
  generalize chars m = C at *
  go_enter Try.func295, Try.ntmps295
  go_wp2_with (go_at_call 325; refine (hF.out _).mono ?_; rintro e w1 ⟨vl, rfl, howl, hb1⟩; obtain ⟨base, cap, rfl⟩ := own_shape howl)
  obtain ⟨B, hB⟩ : ∃ B : Nat, B = w.heap.size := ⟨_, rfl⟩
  rw [← hB] at howl
  have hz1' := hb1.size
  go_loopw [5, 11] (fun v i wr => VaSt n C B (.slice base C.length cap) w v i wr) (fun _ i _ => C.length - (intOf i).toNat)
  case atStart => exact ⟨0, rfl, Nat.zero_le _, World.ownsRow_nil _ _ _ _, howl, apart_nil, (by repeat (first | with_reducible exact Below.refl _ _ | with_reducible assumption | with_reducible apply Below.drew | with_reducible apply below_drewN | (with_reducible apply below_setp; (first | omega | (simp <;> omega))) | (with_reducible apply below_allocp; (first | omega | (simp <;> omega))) | (with_reducible refine below_viap (by assumption) ?_ ?_; (first | omega | (simp <;> omega)))))⟩
  case round =>
    clear howl hb1 hz1'
    obtain ⟨k, rfl, hk, hown, howl, hap, hbel⟩ := hrel
    by_cases hlt : k < C.length
    · obtain ⟨g, rfl, hg2, d1, d2⟩ := own_elemC howl hlt
      have hx := Lib.hid (map_take (g := fun x => chi x n) hlt)
      have hPl : ((C.take k).map fun x => chi x n).length ≤ 900002 := by rw [List.length_map, List.length_take]; omega
      have hc := hok.out _ (List.getElem_mem hlt)
      generalize C[k] = x at *
      have hV := Lib.hid (fun w => chAt_any x n w hc n0 n1)
      generalize chi x n = t at *
      generalize hQ : (C.take k).map (fun x => chi x n) = Q at *
      have hz := hbel.size
      clear hc hQ
      go_wp2_with (first
        | (go_at_call 326; (with_reducible refine (hV.out _).mono ?_); rintro e v1 ⟨rfl, hB1⟩; have hZ1 := hB1.size; (try simp at hZ1); (try have zl1 : w.heap.size < v1.heap.size := by omega); (try have ze1 : w.heap.size ≤ v1.heap.size := by omega); (try have zn1 : ¬ w.heap.size = v1.heap.size := by omega); (try have zm1 : ¬ v1.heap.size = w.heap.size := by omega); have hC1_0 := fun o => (calm_cells hB1).1 (wr.heap.size) o (by first | omega | (simp <;> omega)); have hF1_0 := fun o => (calm_cells hB1).2 (wr.heap.size) o (by first | omega | (simp <;> omega)); (try have hl1_0 : wr.heap.size < v1.heap.size := by omega); (try have hm1_0 : ¬ wr.heap.size = v1.heap.size := by omega); (try have hn1_0 : ¬ v1.heap.size = wr.heap.size := by omega))
        | (at_builtin; refine wpList_append_own_at _ rfl (.tmp 15) (.tmp 19) 31 rfl w.heap.size 3 i0 _ 1 8 Try.underlying31 hi hz0 hz1 hz2 rfl (by decide) u5 Q.length (cellsI Q) rfl ?_ ⟨v1.heap.size, 0, none⟩ 1 1 [.int .i64 t] rfl rfl ?_ (one1 _) ?_ ?_ ?_ ?_; exact (by repeat (first | with_reducible assumption | with_reducible apply own_alloc | with_reducible apply own_drew | with_reducible apply own_drewN | (with_reducible refine own_setp (by assumption) ?_ ?_; (first | omega | (simp <;> omega))) | (with_reducible refine own_call (by assumption) ?_))); exact cells1 (Blk.new _ _ _); (unfold maxLen; omega); omega; (simp; omega); intro x2 w2 hown2 hg3 _ hloc))
      have hb2 : Below w.heap.size w w2 := below_grown (own_ge hown) (by simp; omega) hg3 (by repeat (first | with_reducible exact Below.refl _ _ | with_reducible assumption | with_reducible apply Below.drew | with_reducible apply below_drewN | (with_reducible apply below_setp; (first | omega | (simp <;> omega))) | (with_reducible apply below_allocp; (first | omega | (simp <;> omega))) | (with_reducible refine below_viap (by assumption) ?_ ?_; (first | omega | (simp <;> omega)))))
      have ho2 : w2.ownsRow w.heap.size 3 1 x2 ((C.take (k + 1)).map fun x => chi x n).length (cellsI ((C.take (k + 1)).map fun x => chi x n)) := own_snocI hx.out hown2
      have hol1 : (v1.alloc (Obj.cells #[Value.int IntKind.i64 t] 3)).ownsRow B 275 2 (.slice (some ⟨g, 0, none⟩) C.length cap) C.length (cellsC C) := (by repeat (first | with_reducible assumption | with_reducible apply own_alloc | with_reducible apply own_drew | with_reducible apply own_drewN | (with_reducible refine own_setp (by assumption) ?_ ?_; (first | omega | (simp <;> omega))) | (with_reducible refine own_call (by assumption) ?_)))
      have hol2 := hol1.kept hg3 hap
      have hap2 := apart_next hap hol1 (Nat.le_refl _) hloc
      clear hg3 hown2 hown hbel howl hap hol1 hloc
      go_wp2
      go_roundw
      case rel => exact ⟨k + 1, rfl, hlt, ho2, hol2, hap2, hb2⟩
      case measure => simp [intOf]; omega
    · have e : k = C.length := by omega
      have hx : (C.take k).map (fun x => chi x n) = C.map (fun x => chi x n) := by rw [e, List.take_length]
      have Hx := Lib.hid hx
      clear hx
      subst e
      go_wp2
      go_ret
      exact ⟨_, rfl, by rw [← Hx.out]; exact hown, hbel⟩
end
end Go.Proofs.Ytjfcaafmlghjlaa
