/- Contracts: the forms with a first coefficient, of the program. -/
import Derived.Test.YteicampphegolaaIF
import Derived.Test.YteicampphegolaaTQ
namespace Go.Proofs.Yteicampphegolaa
open Go.RowKit

def rdP (d n : Int) (b : Nat) : Bool := decide (((b : Int) * b - d) % (4 * n) = 0)
def rdL (d n : Int) (k : Nat) : List Int := ((List.range k).filter (rdP d n)).map fun b : Nat => (b : Int)
theorem rdL_next (d n : Int) (k : Nat) : rdL d n (k + 1) = rdL d n k ++ if rdP d n k = true then [(k : Int)] else [] := by
  unfold rdL
  rw [List.range_succ, List.filter_append, List.map_append]
  congr 1
  cases h : rdP d n k <;> simp [h]
theorem rdL_len (d n : Int) (k : Nat) : (rdL d n k).length ≤ k := by
  unfold rdL
  rw [List.length_map]
  have := List.length_filter_le (rdP d n) (List.range k)
  rwa [List.length_range] at this
theorem rdL_mem {d n x : Int} {k : Nat} : x ∈ rdL d n k ↔ 0 ≤ x ∧ x < k ∧ (x * x - d) % (4 * n) = 0 := by
  unfold rdL rdP
  simp only [List.mem_map, List.mem_filter, List.mem_range, decide_eq_true_eq]
  constructor
  · rintro ⟨b, ⟨h1, h2⟩, rfl⟩
    exact ⟨by omega, by omega, h2⟩
  · rintro ⟨h1, h2, h3⟩
    exact ⟨x.toNat, ⟨by omega, by rw [Int.toNat_of_nonneg h1]; exact h3⟩, Int.toNat_of_nonneg h1⟩
theorem rdL_nd (d n : Int) (k : Nat) : (rdL d n k).Nodup := by
  unfold rdL
  refine List.Pairwise.map _ (R := (· ≠ ·)) (fun a b h e => h (by omega)) ?_
  exact List.Pairwise.filter _ List.nodup_range

set_option maxRecDepth 100000 in
set_option maxHeartbeats 3200000 in
theorem roots_any (d n : Int) (w : World) (d1 : -2000 ≤ d) (d2 : d ≤ -3) (h1 : 1 ≤ n) (h2 : n ≤ 2500) :
    Calls Try.prog 272 #[.int .i64 d, .int .i64 n] w (RetI (rdL d n (2 * n).toNat) w) := by
  obtain ⟨i0, hi, hz0, hz1, hz2⟩ := info_parts infoInt
  have n4 : ¬ 4 * n = 0 := by omega
  have n5 : (4 * n == 0) = false := by rw [beq_eq_false_iff_ne]; exact n4
  obtain ⟨m, hm⟩ : ∃ m : Nat, (2 * n).toNat = m := ⟨_, rfl⟩
  have hmn : 2 * n = m := by omega
  have Hmn := Lib.hid hmn
  have hm5 : m ≤ 5000 := by omega
  rw [hm]
  clear hm hmn
  go_enter Try.func272, Try.ntmps272
  go_wp2
  go_loopw [5, 6] (fun v vb wr => ∃ k : Nat, vb = .int .i64 k ∧ k ≤ m ∧ wr.ownsRow w.heap.size 3 1 v (rdL d n k).length (cellsI (rdL d n k)) ∧ Below w.heap.size w wr) (fun _ vb _ => m - (intOf vb).toNat)
  case atStart => exact ⟨0, rfl, Nat.zero_le _, own_empty (Nat.le_refl _), (by repeat (first | with_reducible exact Below.refl _ _ | with_reducible assumption | with_reducible apply Below.drew | with_reducible apply below_drewN | (with_reducible apply below_setp; (first | omega | (simp <;> omega))) | (with_reducible apply below_allocp; (first | omega | (simp <;> omega))) | (with_reducible refine below_viap (by assumption) ?_ ?_; (first | omega | (simp <;> omega)))))⟩
  case round =>
    obtain ⟨k, rfl, hk, hown, hbel⟩ := hrel
    have hz := hbel.size
    have hql := rdL_len d n k
    have hnx := rdL_next d n k
    have hkk : 0 ≤ (k : Int) * k ∧ (k : Int) * k ≤ 5000 * 5000 := ⟨Int.mul_nonneg (by omega) (by omega), Int.mul_le_mul (by omega) (by omega) (by omega) (by omega)⟩
    have htm : ((k : Int) * k - d).tmod (4 * n) = ((k : Int) * k - d) % (4 * n) := Int.tmod_eq_emod_of_nonneg (by omega)
    by_cases hlt : k < m
    · have hlx : (k : Int) < 2 * n := by have := Hmn.out; omega
      generalize hP : rdL d n k = P at *
      by_cases hd : ((k : Int) * k - d) % (4 * n) = 0
      · have e7 : (((k : Int) * k - d) % (4 * n) == 0) = true := by rw [beq_iff_eq]; exact hd
        have Hnx : Hid (rdL d n (k + 1) = P ++ [(k : Int)]) := Lib.hid (by rw [hnx]; simp [rdP, hd])
        clear hd hnx hP
        go_wp2_with (at_builtin; refine wpList_append_own_at _ rfl (.tmp 23) (.tmp 25) 31 rfl w.heap.size 3 i0 _ 1 8 Try.underlying31 hi hz0 hz1 hz2 rfl (by decide) u5 P.length (cellsI P) rfl ?_ ⟨wr.heap.size, 0, none⟩ 1 1 [.int .i64 (k : Int)] rfl rfl ?_ (one1 _) ?_ ?_ ?_ ?_; exact (by repeat (first | with_reducible assumption | with_reducible apply own_alloc | with_reducible apply own_drew | with_reducible apply own_drewN | (with_reducible refine own_setp (by assumption) ?_ ?_; (first | omega | (simp <;> omega))) | (with_reducible refine own_call (by assumption) ?_))); exact cells1 (Blk.new_at (by simp)); (unfold maxLen; omega); omega; (simp; omega); intro x9 w9 hown9 hg9 _ hloc9)
        have hb9 : Below w.heap.size w w9 := below_grown (own_ge hown) (by simp; omega) hg9 (by repeat (first | with_reducible exact Below.refl _ _ | with_reducible assumption | with_reducible apply Below.drew | with_reducible apply below_drewN | (with_reducible apply below_setp; (first | omega | (simp <;> omega))) | (with_reducible apply below_allocp; (first | omega | (simp <;> omega))) | (with_reducible refine below_viap (by assumption) ?_ ?_; (first | omega | (simp <;> omega)))))
        have ho9 := own_snocI Hnx.out hown9
        clear hg9 hown9 hown hloc9
        go_wp2
        go_roundw
        case rel => exact ⟨k + 1, by go_num, hlt, ho9, hb9⟩
        case measure => (first | (simp [intOf]; done) | (simp [intOf]; omega))
      · have e7 : (((k : Int) * k - d) % (4 * n) == 0) = false := by rw [beq_eq_false_iff_ne]; exact hd
        have Hnx : Hid (rdL d n (k + 1) = P) := Lib.hid (by rw [hnx]; simp [rdP, hd])
        clear hd hnx hP
        go_wp2
        go_roundw
        case rel => exact ⟨k + 1, by go_num, hlt, by rw [Hnx.out]; exact hown, hbel⟩
        case measure => (first | (simp [intOf]; done) | (simp [intOf]; omega))
    · have ek : k = m := by omega
      have hlx : ¬ (k : Int) < 2 * n := by have := Hmn.out; omega
      subst ek
      clear hnx
      go_wp2
      go_ret
      exact ⟨_, rfl, hown, hbel⟩

/-- The forms with the first coefficient n. -/
def ldF (d n b : Int) : Fm := ⟨n, b, (b * b - d) / (4 * n)⟩
def ldL (d n : Int) : List Fm := (rdL d n (2 * n).toNat).map (ldF d n)

set_option maxRecDepth 100000 in
set_option maxHeartbeats 3200000 in
theorem leading_any (d n : Int) (w : World) (d1 : -2000 ≤ d) (d2 : d ≤ -3) (h1 : 1 ≤ n) (h2 : n ≤ 2500) :
    Calls Try.prog 254 #[.int .i64 d, .int .i64 n] w (RetF (ldL d n) w) := by
  obtain ⟨i0, hi, hz0, hz1, hz2⟩ := info_parts infoForm
  have hR := Lib.hid (fun w => roots_any d n w d1 d2 h1 h2)
  have hM := Lib.hid (fun x (hx : x ∈ rdL d n (2 * n).toNat) => (by have := rdL_mem.1 hx; omega : 0 ≤ x ∧ x ≤ 5000))
  have hl := rdL_len d n (2 * n).toNat
  have hl2 : (2 * n).toNat ≤ 5000 := by omega
  unfold ldL
  generalize rdL d n (2 * n).toNat = L at *
  have n4 : ¬ 4 * n = 0 := by omega
  have n5 : (4 * n == 0) = false := by rw [beq_eq_false_iff_ne]; exact n4
  have hl3 : L.length ≤ 5000 := by omega
  clear hl hl2
  go_enter Try.func254, Try.ntmps254
  go_wp2_with (go_at_call 272; refine (hR.out _).mono ?_; rintro e v1 ⟨vl, rfl, hol, hB1⟩; have hZ1 := hB1.size; (try simp at hZ1); obtain ⟨bl, cl, rfl⟩ := own_shape hol)
  have hb1 : Below w.heap.size w v1 := (by repeat (first | with_reducible exact Below.refl _ _ | with_reducible assumption | with_reducible apply Below.drew | with_reducible apply below_drewN | (with_reducible apply below_setp; (first | omega | (simp <;> omega))) | (with_reducible apply below_allocp; (first | omega | (simp <;> omega))) | (with_reducible refine below_viap (by assumption) ?_ ?_; (first | omega | (simp <;> omega)))))
  have hrow0 : v1.ownsRow w.heap.size 35 3 (.slice (some ⟨w.heap.size, 0, none⟩) 0 0) 0 [] := own_call hB1 (own_empty (Nat.le_refl _))
  obtain ⟨B2, hB2⟩ : ∃ B2, B2 = w.heap.size + 1 := ⟨_, rfl⟩
  have hol' : v1.ownsRow B2 3 1 (.slice bl L.length cl) L.length (cellsI L) := by rw [hB2]; simpa using hol
  have hap0 : Apart (.slice (some ⟨w.heap.size, 0, none⟩) 0 0) (.slice bl L.length cl) := apart_below hol' (by omega)
  clear hol
  obtain ⟨m, hm⟩ : ∃ m, L.length = m := ⟨_, rfl⟩
  have Hm := Lib.hid hm
  rw [hm] at hl3 hol' hap0 ⊢
  clear hm
  go_loopw [5, 13] (fun v vi wr => ∃ k : Nat, vi = .int .i64 k ∧ k ≤ m ∧ wr.ownsRow w.heap.size 35 3 v ((L.take k).map (ldF d n)).length (cellsF ((L.take k).map (ldF d n))) ∧ wr.ownsRow B2 3 1 (.slice bl m cl) m (cellsI L) ∧ Apart v (.slice bl m cl) ∧ Below w.heap.size w wr) (fun _ vi _ => m - (intOf vi).toNat)
  case atStart => exact ⟨0, rfl, Nat.zero_le _, hrow0, hol', hap0, hb1⟩
  case round =>
    clear hrow0 hol' hap0 hb1
    obtain ⟨k, rfl, hk, hown, hol, hap, hbel⟩ := hrel
    have hz := hbel.size
    by_cases hlt : k < m
    · have hkL : k < L.length := by rw [Hm.out]; exact hlt
      obtain ⟨g, rfl, lg, c1⟩ := own_elemI (by rw [Hm.out]; exact hol) hkL
      obtain ⟨x1, x2⟩ := hM.out _ (List.getElem_mem hkL)
      have hnx : (L.take (k + 1)).map (ldF d n) = (L.take k).map (ldF d n) ++ [ldF d n L[k]] := by
        rw [List.take_succ_eq_append_getElem hkL, List.map_append]; rfl
      have hql : ((L.take k).map (ldF d n)).length ≤ 5000 := by rw [List.length_map, List.length_take]; omega
      generalize L[k] = x at *
      generalize (L.take k).map (ldF d n) = P at *
      have hxx : 0 ≤ x * x ∧ x * x ≤ 5000 * 5000 := ⟨Int.mul_nonneg x1 x1, Int.mul_le_mul x2 x2 x1 (by omega)⟩
      have hq : (x * x - d).tdiv (4 * n) = (x * x - d) / (4 * n) := Int.tdiv_eq_ediv_of_nonneg (by omega)
      have hq1 : 0 ≤ (x * x - d) / (4 * n) := Int.ediv_nonneg (by omega) (by omega)
      have hq2 : (x * x - d) / (4 * n) ≤ x * x - d := Int.ediv_le_self _ (by omega)
      have Hnx := Lib.hid hnx
      unfold ldF at Hnx
      clear hnx
      generalize (x * x - d) / (4 * n) = y at *
      go_wp2_with (at_builtin; refine wpList_append_own_at _ rfl (.tmp 17) (.tmp 29) 101 rfl w.heap.size 35 i0 _ 3 24 Try.underlying101 hi hz0 hz1 hz2 rfl (by decide) u5 P.length (cellsF P) rfl ?_ ⟨wr.heap.size, 0, none⟩ 1 1 [.int .i64 n, .int .i64 x, .int .i64 y] rfl rfl ?_ (one3 _ _ _) ?_ ?_ ?_ ?_; exact own_alloc hown; exact cells3 (Blk.new_at (by simp)); (unfold maxLen; omega); omega; (simp; omega); intro x9 w9 hown9 hg9 _ hloc9)
      have hb9 : Below w.heap.size w w9 := below_grown (own_ge hown) (by simp; omega) hg9 (by repeat (first | with_reducible exact Below.refl _ _ | with_reducible assumption | with_reducible apply Below.drew | with_reducible apply below_drewN | (with_reducible apply below_setp; (first | omega | (simp <;> omega))) | (with_reducible apply below_allocp; (first | omega | (simp <;> omega))) | (with_reducible refine below_viap (by assumption) ?_ ?_; (first | omega | (simp <;> omega)))))
      have ho9 := own_snoc (f := ⟨n, x, y⟩) Hnx.out hown9
      have hol1 := own_alloc (o := .cells #[.int .i64 n, .int .i64 x, .int .i64 y] 35) hol
      have hol9 := hol1.kept hg9 hap
      have hap9 := apart_next hap hol1 (Nat.le_refl _) hloc9
      clear hg9 hown9 hown hol1 hol hloc9 hap
      go_wp2
      go_roundw
      case rel => exact ⟨k + 1, by go_num, hlt, ho9, hol9, hap9, hb9⟩
      case measure => (first | (simp [intOf]; done) | (simp [intOf]; omega))
    · have ek : k = m := by omega
      have hLk : L.take k = L := by rw [List.take_of_length_le]; rw [Hm.out]; omega
      rw [hLk] at hown
      subst ek
      clear hLk
      go_wp2
      go_ret
      exact ⟨_, rfl, hown, hbel⟩
end Go.Proofs.Yteicampphegolaa
